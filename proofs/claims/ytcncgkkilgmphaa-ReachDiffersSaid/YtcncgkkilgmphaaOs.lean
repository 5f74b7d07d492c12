/-
  Contracts: marref6.Reader (Take, Byte, Num).
  Contract: marref6.Decode, its drawn regions.
  Contract: marref6.Decode, marref6.Obj.Refs.
-/
import Derived.Test.YtcncgkkilgmphaaOp
set_option linter.unusedVariables false
set_option linter.unusedSimpArgs false
namespace Go.Proofs.Ytcncgkkilgmphaa
open Go Go.RowKit

def RdrB (w0 W : World) (sb : Nat) (L : List UInt8) (s : Src) : Prop := ∃ bv P, Kp sb #[bv, .int .i64 ((P : Nat) : Int), .bool s.2] 84 W ∧ Row w0 bv (bytesV L) ∧ P ≤ L.length ∧ s.1 = L.drop P
theorem RdrB.ext {w0 W W' : World} {sb : Nat} {L : List UInt8} {s : Src} (h : RdrB w0 W sb L s) (hE : Ext W W') : RdrB w0 W' sb L s := let ⟨bv, P, h1, h2⟩ := h; ⟨bv, P, h1.ext hE, h2⟩
theorem RdrB.mod {w0 W W' : World} {sb : Nat} {L : List UInt8} {s : Src} {row : Option Nat} (h : RdrB w0 W sb L s) (hm : Mod row W W') (hne : some sb ≠ row) : RdrB w0 W' sb L s := let ⟨bv, P, h1, h2⟩ := h; ⟨bv, P, h1.mod hm hne, h2⟩
theorem RdrB.kp {w0 W : World} {sb : Nat} {L : List UInt8} {s : Src} (h : RdrB w0 W sb L s) : ∃ cs, Kp sb cs 84 W := let ⟨bv, P, h1, _⟩ := h; ⟨_, h1⟩
theorem run_fieldR (b : Nat) (w : World) : (Instr.fieldAt 84 (.pointer (some ⟨b, 0, none⟩)) 0).run Try.prog w = .ok (.pointer (some ⟨b, 0, none⟩)) w ∧ (Instr.fieldAt 84 (.pointer (some ⟨b, 0, none⟩)) 1).run Try.prog w = .ok (.pointer (some ⟨b, 1, none⟩)) w ∧
    (Instr.fieldAt 84 (.pointer (some ⟨b, 0, none⟩)) 2).run Try.prog w = .ok (.pointer (some ⟨b, 2, none⟩)) w := by
  refine ⟨?_, ?_, ?_⟩ <;> simp [go_sem, Instr.fieldAt, Addr.add]
section
variable {w0 w : World} {sb : Nat} {L : List UInt8} {s : Src}
theorem RdrB.bad {k : Unit → World → Prop} (h : RdrB w0 w sb L s) (hk : ∀ W, RdrB w0 W sb L (s.1, true) → Mod (some sb) w W → k () W) : Does Try.prog (Instr.fieldAt 84 (.pointer (some ⟨sb, 0, none⟩)) 2) w fun t w => Does Try.prog (Instr.storeAt 4 t (.bool true)) w k := by
  obtain ⟨bv, P, h1, h2, h3, h4⟩ := h
  exact does_of (run_fieldR sb w).2.2 (does_of (run_store1 sz_bool rfl rfl (h1.cell (i := 2) rfl) h1.frozen) (hk _ ⟨bv, P, h1.set _, h2, h3, h4⟩ (Mod.setCell w sb 2 _)))
theorem RdrB.isBad {k : Value → World → Prop} (h : RdrB w0 w sb L s) (hk : k (.bool s.2) w) : Does Try.prog (Instr.fieldAt 84 (.pointer (some ⟨sb, 0, none⟩)) 2) w fun t w => Does Try.prog (Instr.loadAt 4 t) w k := by
  obtain ⟨bv, P, h1, h2, h3, h4⟩ := h
  exact does_of (run_fieldR sb w).2.2 (does_load1 agg_bool (h1.cell rfl) hk)
end
theorem rtake_spec {w0 w : World} {sb n : Nat} {L : List UInt8} {s : Src} (h : RdrB w0 w sb L s) (hE : Ext w0 w) (hsb : w0.heap.size ≤ sb) (hL : L.length ≤ 1048577) :
    Call Try.prog 52 #[.pointer (some ⟨sb, 0, none⟩), .int .i64 n] w fun v w' => OwnB w0 w' v (takeP s n).1 ∧ RdrB w0 w' sb L (takeP s n).2 ∧ Mod (some sb) w w' := by
  apply vc52
  unfold V52
  obtain ⟨bv, P, hk, hr, hP, hs⟩ := id h
  have hsl : s.1.length = L.length - P := by rw [hs]; simp
  have f := fun W => run_fieldR sb W
  refine q52_1 (Ext w) (Ext.drawn _) fun _ => ?_
  rw [nilP_some]
  have l0 : ∀ W, Ext w W → (Instr.loadAt 34 (.pointer (some ⟨sb, 0, none⟩))).run Try.prog W = .ok bv W := fun W hW => run_load1 agg_bytes ((hk.ext hW).cell rfl)
  have l1 : ∀ W, Ext w W → (Instr.loadAt 3 (.pointer (some ⟨sb, 1, none⟩))).run Try.prog W = .ok (.int .i64 ((P : Nat) : Int)) W := fun W hW => run_load1 agg_i64 ((hk.ext hW).cell rfl)
  have l2 : ∀ W, Ext w W → (Instr.loadAt 4 (.pointer (some ⟨sb, 2, none⟩))).run Try.prog W = .ok (.bool s.2) W := fun W hW => run_load1 agg_bool ((hk.ext hW).cell rfl)
  refine qx (fun W => (f W).2.2) (qc l2 ?_)
  refine or_join false (fun _ j hj => qx run_lt (by rw [show decide ((n : Int) < 0) = false by simp]; exact hj)) ?_
  rw [Bool.or_false]
  refine or_join (decide (s.1.length < n)) (fun _ j hj => ?_) ?_
  · rw [nilP_some]
    refine qx (fun W => (f W).1) (qc l0 (q_len hr u_bytes ?_))
    rw [nilP_some, bytesV_length]
    refine qx (fun W => (f W).2.1) (qc l1 (qx (fun W => run_sub (by omega) (by omega) W) (qx run_gt ?_)))
    rw [show decide (((L.length : Nat) : Int) - ((P : Nat) : Int) < (n : Int)) = decide (s.1.length < n) by rw [decide_eq_decide]; omega]
    exact hj
  intro W hW _
  have hhW := h.ext hW
  refine condP_of (fun hb => ?_) fun hok => ?_
  · rw [nilP_some]
    have e : takeP s n = ([], (s.1, true)) := by
      unfold takeP
      rw [if_pos (by simpa using hb)]
    refine hhW.bad fun W2 h1 h2 => ?_
    rw [e]
    exact ⟨OwnB.nil _ _, h1, (Mod.ofExt hW).trans h2⟩
  · simp only [Bool.or_eq_false_iff, decide_eq_false_iff_not] at hok
    have e : takeP s n = (s.1.take n, (s.1.drop n, s.2)) := by
      unfold takeP
      rw [if_neg (by simp [hok.1]; omega)]
    rw [e]
    have hEW := hE.trans hW
    obtain ⟨va, vc, hv, hvl, _⟩ := id hr
    have hlen : (bytesV L).length = L.length := by simp
    have hkW := hk.ext hW
    refine q52_4 (Ext W) (Ext.drawn _) fun _ => ?_
    have m0 : ∀ W', Ext W W' → (Instr.loadAt 34 (.pointer (some ⟨sb, 0, none⟩))).run Try.prog W' = .ok bv W' := fun W' hW' => run_load1 agg_bytes ((hkW.ext hW').cell rfl)
    have m1 : ∀ W', Ext W W' → (Instr.loadAt 3 (.pointer (some ⟨sb, 1, none⟩))).run Try.prog W' = .ok (.int .i64 ((P : Nat) : Int)) W' := fun W' hW' => run_load1 agg_i64 ((hkW.ext hW').cell rfl)
    rw [nilP_some]
    refine qx (fun W => (f W).1) (qc m0 ?_)
    rw [nilP_some]
    refine qx (fun W => (f W).2.1) (qc m1 ?_)
    rw [nilP_some]
    refine qx (fun W => (f W).2.1) (qc m1 (qx (fun W => run_add (by omega) (by omega) W) ?_))
    rw [show ((P : Nat) : Int) + ((n : Nat) : Int) = ((P + n : Nat) : Int) by omega]
    rw [hv]
    refine qx (run_cut u_bytes sz_u8 (l := P) (h := P + n) (by omega) (by omega)) fun W2 hW2 _ => ?_
    have hx : Row w0 (.slice (if vc = P then va else va.map (·.add P)) (P + n - P) (vc - P)) (bytesV (s.1.take n)) := by
      rw [hv] at hr
      have := row_cut (l := P) (h := P + n) hr (by omega) (by omega)
      have e2 : ((bytesV L).take (P + n)).drop P = bytesV (s.1.take n) := by
        rw [hs]
        unfold bytesV
        rw [← List.map_take, ← List.map_drop, List.drop_take]
        congr 2
        omega
      rw [e2] at this
      exact this
    have hkW2 := hkW.ext hW2
    rw [nilP_some]
    refine does_of (f W2).2.1 (does_of (m1 W2 hW2) (does_add (by omega) (by omega) ?_))
    rw [show ((P : Nat) : Int) + ((n : Nat) : Int) = ((P + n : Nat) : Int) by omega, nilP_some]
    refine does_of (f W2).2.1 (does_of (run_store1 sz_int' rfl rfl (hkW2.cell (i := 1) rfl) hkW2.frozen) ?_)
    have hm := Mod.setCell W2 sb 1 (.int .i64 ((P + n : Nat) : Int))
    have hk3 := hkW2.set (i := 1) (.int .i64 ((P + n : Nat) : Int))
    generalize W2.setCell ⟨sb, 1, none⟩ (.int .i64 ((P + n : Nat) : Int)) = W3 at hm hk3
    have hE3 : Ext w0 W3 := Mod.ext (hEW.trans hW2) hm fun k hk => by cases hk; exact hsb
    refine (copyBytes_spec (hx.ext hE3) (by simp; omega)).mono fun u W4 ⟨g1, g2⟩ => ⟨g1.back hE3, ⟨bv, P + n, hk3.ext g2, hr, by omega, by rw [hs]; simp [List.drop_drop]⟩, (((Mod.ofExt hW).trans (Mod.ofExt hW2)).trans hm).trans (Mod.ofExt g2)⟩
theorem rbyte_spec {w0 w : World} {sb : Nat} {L : List UInt8} {s : Src} (h : RdrB w0 w sb L s) (hE : Ext w0 w) (hsb : w0.heap.size ≤ sb) (hL : L.length ≤ 1048577) :
    Call Try.prog 54 #[.pointer (some ⟨sb, 0, none⟩)] w fun v w' => v = .int .i64 ((oneP s).1 : Nat) ∧ RdrB w0 w' sb L (oneP s).2 ∧ Mod (some sb) w w' := by
  apply vc54
  unfold V54
  refine (rtake_spec (n := 1) h hE hsb hL).mono fun v W ⟨h1, h2, h3⟩ => ?_
  refine h1.row.len u_bytes (does_of (run_eqI W) (condP_of (fun h0 => ?_) fun h0 => ?_))
  · have hnil : (takeP s 1).1 = [] := by simp at h0; exact h0
    refine ⟨?_, h2, h3⟩
    unfold oneP
    rw [hnil]
    rfl
  · cases hl : (takeP s 1).1 with
    | nil => simp [hl] at h0
    | cons c l =>
      rw [hl] at h1
      refine does_byteAt (i := 0) h1.row (Ext.refl _) rfl (does_of (run_conv53 c W) ⟨?_, h2, h3⟩)
      unfold oneP
      rw [hl]
      rfl
theorem rnum_spec {w0 w : World} {sb : Nat} {L : List UInt8} {s : Src} (h : RdrB w0 w sb L s) (hE : Ext w0 w) (hL : L.length ≤ 1048577) :
    Call Try.prog 53 #[.pointer (some ⟨sb, 0, none⟩)] w fun v w' => v = .int .i64 ((rnumP s).1 : Nat) ∧ RdrB w0 w' sb L (rnumP s).2 ∧ Mod (some sb) w w' := by
  apply vc53
  unfold V53
  obtain ⟨bv, P, hk, hr, hP, hs⟩ := id h
  have f := fun W => run_fieldR sb W
  refine q53_1 (Ext w) (Ext.drawn _) fun _ => ?_
  have l0 : ∀ W, Ext w W → (Instr.loadAt 34 (.pointer (some ⟨sb, 0, none⟩))).run Try.prog W = .ok bv W := fun W hW => run_load1 agg_bytes ((hk.ext hW).cell rfl)
  have l1 : ∀ W, Ext w W → (Instr.loadAt 3 (.pointer (some ⟨sb, 1, none⟩))).run Try.prog W = .ok (.int .i64 ((P : Nat) : Int)) W := fun W hW => run_load1 agg_i64 ((hk.ext hW).cell rfl)
  rw [nilP_some]
  refine qx (fun W => (f W).1) (qc l0 ?_)
  rw [nilP_some]
  refine qx (fun W => (f W).2.1) (qc l1 (qcall_of (getV L P) (fun W hW => (rget_spec (hr.ext (hE.trans hW)) (by omega) hP).mono fun v W' ⟨h1, h2⟩ => ⟨h1, Ext.trans hW h2⟩) ?_))
  have hg : getV L P = .tuple (if (getR s.1).2.2 = 0 then #[.int .i64 ((getR s.1).1 : Nat), .int .i64 ((P + (getR s.1).2.1 : Nat) : Int), .int .i64 0] else #[.int .i64 0, .int .i64 0, .int .i64 (getR s.1).2.2]) := by
    unfold getV
    rw [← hs]
  rw [hg]
  have hle := (getR_le (b := s.1)).1
  have hsl : s.1.length = L.length - P := by rw [hs]; simp
  by_cases h0 : (getR s.1).2.2 = 0
  · rw [if_pos h0]
    refine ⟨_, fun W _ => by simp only [Instr.extract]; rfl, ?_⟩
    refine ⟨_, fun W _ => by simp only [Instr.extract]; rfl, ?_⟩
    refine ⟨_, fun W _ => by simp only [Instr.extract]; rfl, ?_⟩
    intro W hW _
    rw [nilP_some]
    have hhW := h.ext hW
    refine hhW.isBad ?_
    refine or_join (!decide ((0 : Int) = 0)) (fun _ j hj => does_of (run_neI W) hj) ?_
    rw [show (!decide ((0 : Int) = 0)) = false from rfl, Bool.or_false]
    refine condP_of (fun hb => ?_) fun hok => ?_
    · rw [nilP_some]
      have e : rnumP s = (0, (s.1, true)) := by unfold rnumP; rw [if_pos (.inl hb)]
      refine hhW.bad fun W2 g1 g2 => ?_
      rw [e]
      exact ⟨rfl, g1, (Mod.ofExt hW).trans g2⟩
    · rw [nilP_some]
      have e : rnumP s = ((getR s.1).1, (s.1.drop (getR s.1).2.1, s.2)) := by unfold rnumP; rw [if_neg (by simp [hok, h0])]
      have hkW := hk.ext hW
      refine does_of (f W).2.1 (does_of (run_store1 sz_int' rfl rfl (hkW.cell (i := 1) rfl) hkW.frozen) ?_)
      rw [e]
      exact ⟨rfl, ⟨bv, P + (getR s.1).2.1, hkW.set _, hr, by omega, by rw [hs]; simp [List.drop_drop]⟩, (Mod.ofExt hW).trans (Mod.setCell W sb 1 _)⟩
  · rw [if_neg h0]
    refine ⟨_, fun W _ => by simp only [Instr.extract]; rfl, ?_⟩
    refine ⟨_, fun W _ => by simp only [Instr.extract]; rfl, ?_⟩
    refine ⟨_, fun W _ => by simp only [Instr.extract]; rfl, ?_⟩
    intro W hW _
    rw [nilP_some]
    have hhW := h.ext hW
    refine hhW.isBad ?_
    refine or_join (!decide ((getR s.1).2.2 = 0)) (fun _ j hj => does_of (run_neI W) hj) ?_
    rw [show (!decide ((getR s.1).2.2 = 0)) = true by simp [h0], Bool.or_true, condP_true, nilP_some]
    have e : rnumP s = (0, (s.1, true)) := by unfold rnumP; rw [if_pos (.inr h0)]
    refine hhW.bad fun W2 g1 g2 => ?_
    rw [e]
    exact ⟨rfl, g1, (Mod.ofExt hW).trans g2⟩
end Go.Proofs.Ytcncgkkilgmphaa

set_option linter.unusedVariables false
set_option linter.unusedSimpArgs false
namespace Go.Proofs.Ytcncgkkilgmphaa
open Go Go.RowKit

structure RrQ (w0 W : World) (ab sb : Nat) (L : List UInt8) (dv iv pv : Value) (o : Ob) (s : Src) : Prop where
  e : Ext w0 W
  kab : OBlk W ab 38 dv iv pv o
  ksb : RdrB w0 W sb L s
  ga : w0.heap.size ≤ ab
  gs : w0.heap.size ≤ sb
  sl : ∃ a n c, dv = .slice a n c
  hL : L.length ≤ 1048577
structure RrSt (w0 W : World) (ab sb : Nat) (L : List UInt8) (dv iv pv : Value) (o : Ob) (s : Src) : Prop where
  q : RrQ w0 W ab sb L dv iv pv o s
  items : Own3 W w0.heap.size 87 iv o.items
  pars : Own W w0.heap.size 9 pv (strsV o.parents)
section
variable {w0 W W' : World} {ab sb : Nat} {L : List UInt8} {dv iv pv : Value} {o o' : Ob} {s s' : Src}
theorem RrQ.ext (h : RrQ w0 W ab sb L dv iv pv o s) (hE : Ext W W') : RrQ w0 W' ab sb L dv iv pv o s := ⟨h.e.trans hE, h.kab.ext hE, h.ksb.ext hE, h.ga, h.gs, h.sl, h.hL⟩
theorem RrSt.ext (h : RrSt w0 W ab sb L dv iv pv o s) (hE : Ext W W') : RrSt w0 W' ab sb L dv iv pv o s := ⟨h.q.ext hE, h.items.ext hE, h.pars.ext hE⟩
theorem RrQ.abk (h : RrQ w0 W ab sb L dv iv pv o s) : Kp ab (ObC dv iv pv o) 38 W := h.kab
theorem RrQ.src (h : RrQ w0 W ab sb L dv iv pv o s) (hm : Mod (some sb) W W') (hs : RdrB w0 W' sb L s') : RrQ w0 W' ab sb L dv iv pv o s' := by
  obtain ⟨cs, hk⟩ := h.ksb.kp
  exact ⟨Mod.ext h.e hm fun k hk => by cases hk; exact h.gs, h.abk.mod hm fun e => h.abk.ne hk (by decide) (by cases e; rfl), hs, h.ga, h.gs, h.sl, h.hL⟩
theorem RrSt.src (h : RrSt w0 W ab sb L dv iv pv o s) (hm : Mod (some sb) W W') (hs : RdrB w0 W' sb L s') : RrSt w0 W' ab sb L dv iv pv o s' := by
  obtain ⟨cs, hk⟩ := h.q.ksb.kp
  exact ⟨h.q.src hm hs, h.items.kept hm (.inr (Ne.symm (h.items.neK hk (by decide)))), h.pars.kept hm (.inr (Ne.symm (h.pars.neK hk (by decide))))⟩
theorem RrQ.obj {dv' iv' pv' : Value} (h : RrQ w0 W ab sb L dv iv pv o s) (hm : Mod (some ab) W W') (ha : OBlk W' ab 38 dv' iv' pv' o') (hd : ∃ a n c, dv' = .slice a n c) : RrQ w0 W' ab sb L dv' iv' pv' o' s := by
  obtain ⟨cs, hk⟩ := h.ksb.kp
  exact ⟨Mod.ext h.e hm fun k hk => by cases hk; exact h.ga, ha, h.ksb.mod hm fun e => hk.ne h.abk (by decide) (by cases e; rfl), h.ga, h.gs, hd, h.hL⟩
theorem RrQ.other {row : Option Nat} (h : RrQ w0 W ab sb L dv iv pv o s) (hm : Mod row W W') (hr : ∀ k, row = some k → w0.heap.size ≤ k) (h2 : some ab ≠ row) (h3 : some sb ≠ row) : RrQ w0 W' ab sb L dv iv pv o s :=
  ⟨Mod.ext h.e hm hr, h.kab.mod hm h2, h.ksb.mod hm h3, h.ga, h.gs, h.sl, h.hL⟩
end
def RrC (w0 : World) (ab sb : Nat) (L : List UInt8) (dv iv pv : Value) (o : Ob) (x : It) (s : Src) (nv : Value) (nm : List UInt8) (k : Nat) (W : World) : Prop :=
  OwnB w0 W nv nm ∧ match k with
  | 0 => RrSt w0 W ab sb L dv iv pv o s
  | 1 => RrSt w0 W ab sb L dv iv pv o (hashP s).2
  | 2 => RrSt w0 W ab sb L dv iv pv o (hashP s).2
  | 3 => RrQ w0 W ab sb L dv iv pv o (hashP s).2 ∧ Own W w0.heap.size 9 pv (strsV o.parents)
  | _ => ∃ iv', RrSt w0 W ab sb L dv iv' pv { o with items := o.items ++ [x] } (hashP s).2
theorem RrC.ext {w0 W W' : World} {ab sb : Nat} {L : List UInt8} {dv iv pv : Value} {o : Ob} {x : It} {s : Src} {nv : Value} {nm : List UInt8} {k : Nat} (h : RrC w0 ab sb L dv iv pv o x s nv nm k W) (hE : Ext W W') : RrC w0 ab sb L dv iv pv o x s nv nm k W' := by
  obtain ⟨h1, h2⟩ := h
  refine ⟨h1.ext hE, ?_⟩
  rcases k with _ | _ | _ | _ | k
  · exact RrSt.ext h2 hE
  · exact RrSt.ext h2 hE
  · exact RrSt.ext h2 hE
  · exact ⟨h2.1.ext hE, h2.2.ext hE⟩
  · obtain ⟨iv', h2⟩ := h2
    exact ⟨iv', RrSt.ext h2 hE⟩
theorem RrC.q {w0 W : World} {ab sb : Nat} {L : List UInt8} {dv iv pv : Value} {o : Ob} {x : It} {s : Src} {nv : Value} {nm : List UInt8} {k : Nat} (h : RrC w0 ab sb L dv iv pv o x s nv nm k W) (hk : k ≤ 3) : OBlk W ab 38 dv iv pv o := by
  obtain ⟨h1, h2⟩ := h
  rcases k with _ | _ | _ | _ | k
  · exact RrQ.kab (RrSt.q h2)
  · exact RrQ.kab (RrSt.q h2)
  · exact RrQ.kab (RrSt.q h2)
  · exact RrQ.kab h2.1
  · omega
def FTr (x : It) (k : Nat) (v : Value) (W : World) : Prop := k ≤ 2 → ∃ g, v = .slice (some ⟨g, 0, none⟩) 1 1 ∧ Kp g (cellsI x).toArray 87 W
theorem FTr.off {x : It} {k : Nat} {v : Value} {W : World} (h : ¬ k ≤ 2) : FTr x k v W := fun e => absurd e h
theorem FTr.st (x : It) (k : Nat) : FSt Ext (FTr x k) := fun v W W' hE h hk => by obtain ⟨g, g1, g2⟩ := h hk; exact ⟨g, g1, g2.ext hE⟩
theorem FTr.keep {x : It} {k k' : Nat} {v : Value} {W W' : World} {b : Nat} {cs : Array Value} {t : TypeId} (h : FTr x k v W) (hk : k ≤ 2) (hb : Kp b cs t W) (ht : t ≠ 87) (hm : Mod (some b) W W') : FTr x k' v W' := fun _ => by
  obtain ⟨g, g1, g2⟩ := h hk
  exact ⟨g, g1, g2.mod hm fun e => g2.ne hb (Ne.symm ht) (by cases e; rfl)⟩
theorem region15_15 {w0 W : World} {ab sb : Nat} {L : List UInt8} {dv iv pv nv : Value} {o : Ob} {s : Src} {mode : Int} {nm : List UInt8} {J : VF 0} (h : RrSt w0 W ab sb L dv iv pv o s) (hn : OwnB w0 W nv nm) (hl : o.items.length ≤ 1099511627000)
    (hJ : ∀ W' iv', RrSt w0 W' ab sb L dv iv' pv { o with items := o.items ++ [⟨mode, mkS nm, (hashP s).1⟩] } (hashP s).2 → J W') :
    DrawP Try.prog 132 (opsOf Try.f15 15) [4, 5, 8, 9] [.pointer (some ⟨sb, 0, none⟩), .pointer (some ⟨ab, 0, none⟩), .int .i64 mode, nv] [] J W := by
  have hE := h.q.e
  have fO := fun W => run_field_r ab W
  refine h15_15 w0 (RrC w0 ab sb L dv iv pv o ⟨mode, mkS nm, (hashP s).1⟩ s nv nm) (FoB w0 1 (takeP s 32).1) (FcV (.string (hashP s).1)) (FcV (.agg (cellsI ⟨mode, mkS nm, (hashP s).1⟩).toArray)) (FTr ⟨mode, mkS nm, (hashP s).1⟩)
    (fun k v W => k = 3 → Own3 W w0.heap.size 87 v (o.items ++ [⟨mode, mkS nm, (hashP s).1⟩])) hE (FoB.st _ _ _) (FcV.st _) (FcV.st _) (FTr.st _) (fun k v W W' hE h hk => (h hk).ext hE) ⟨hn.ext (Ext.drawn W), h.ext (Ext.drawn W)⟩ ?_
  refine qx (fun W => (fO W).2.2.1) (qc (fun W' hS => by obtain ⟨_, k, _, hk, hC⟩ := hS; exact run_load1 agg_items_r (hC.q (by omega)).cell.2.2.1) (qc (fun W' hS => by obtain ⟨_, k, _, _, hC⟩ := hS; exact run_conv_str hC.1.row) (qx (fun W => (fO W).2.2.1) ⟨?_, ?_, ?_, ?_, ?_, ?_, ?_⟩)))
  · intro W1 hA hC
    have hR : RrSt w0 W1 ab sb L dv iv pv o s := hC.2
    obtain ⟨cs, hk⟩ := hR.q.ksb.kp
    refine (rtake_spec (n := 32) hR.q.ksb hR.q.e hR.q.gs hR.q.hL).mono fun v W2 ⟨g1, g2, g3⟩ => ?_
    have hR2 := hR.src g3 g2
    exact ⟨⟨g3.size, hR2.q.e⟩, ⟨Own.kept hC.1 g3 (.inr (Ne.symm (hC.1.ne hk (by decide)))), hR2⟩, fun _ => g1, fun v hv => hv.keep (by omega) hk (by decide) g3, trivial⟩
  · intro t W1 hA hC hF
    have hl32 : (takeP s 32).1.length ≤ 32 := (takeP_len s 32).2.1
    have hR : RrSt w0 W1 ab sb L dv iv pv o (hashP s).2 := hC.2
    refine (rhex_spec (hF rfl).row (by omega)).mono fun v W2 ⟨g1, g2⟩ => ⟨⟨g2.size, hA.2.trans g2⟩, ⟨hC.1.ext g2, hR.ext g2⟩, g1, (by intros; exact FoB.off (by omega)), fun v hv _ => by obtain ⟨g, e1, e2⟩ := hv (by omega); exact ⟨g, e1, e2.ext g2⟩, trivial⟩
  · rintro t k hk1 hk2 W1 hA hC rfl
    exact does_of (run_buildI_r ⟨mode, mkS nm, (hashP s).1⟩ W1) ⟨Ext.refl _, hC, rfl⟩
  · rintro t k hk1 hk2 W1 hA hC rfl
    exact does_of (run_buildSliceI_r _ W1) ⟨ext_any _ W1, hC.ext (ext_any _ W1), fun _ => ⟨_, rfl, heap_alloc_new W1 _⟩⟩
  · intro t W1 hA hC hF
    have hR : RrSt w0 W1 ab sb L dv iv pv o (hashP s).2 := hC.2
    obtain ⟨g, rfl, hg⟩ := hF (by omega)
    obtain ⟨cs, hk⟩ := hR.q.ksb.kp
    refine hR.items.push_r (ir_one hg) (by omega) hR.q.e.size fun v W2 g1 g2 g3 => ?_
    have q2 := hR.items.neK hR.q.abk (by decide)
    have q3 := hR.items.neK hk (by decide)
    have hR2 := hR.q.other g2 (fun k hk => (hR.items.lt k hk).1) q2 q3
    have hother : ∀ {b : Nat} {cur : Array Value} {t : TypeId}, W1.heap[b]? = some (.cells cur t) → t ≠ 87 → some b ≠ iv.ownBlock := fun hc ht => hR.items.neK hc ht
    refine ⟨⟨g2.size, hR2.e⟩, ⟨Own.kept hC.1 g2 ?_, hR2, hR.pars.kept g2 ?_⟩, fun _ => g1, (by intros; exact FoB.off (by omega)), (by intros; assumption), (by intros; assumption), (by intros; exact FTr.off (by omega)), trivial⟩
    · by_cases hp : nv.ownBlock = none
      · exact .inl hp
      · refine .inr fun e => ?_
        obtain ⟨b, hb⟩ := Option.ne_none_iff_exists'.1 hp
        obtain ⟨cur, hc⟩ := Own.block' hC.1 b hb
        exact hother hc (by decide) (by rw [← e, hb])
    · by_cases hp : pv.ownBlock = none
      · exact .inl hp
      · refine .inr fun e => ?_
        obtain ⟨b, hb⟩ := Option.ne_none_iff_exists'.1 hp
        obtain ⟨cur, hc⟩ := hR.pars.block' b hb
        exact hother hc (by decide) (by rw [← e, hb])
  · intro t W1 hA hC hF
    obtain ⟨hN, hQ, hP⟩ : OwnB w0 W1 nv nm ∧ RrQ w0 W1 ab sb L dv iv pv o (hashP s).2 ∧ Own W1 w0.heap.size 9 pv (strsV o.parents) := hC
    have hI := hF rfl
    obtain ⟨a, n, c, rfl⟩ := own3_slice hI
    have hm := Mod.setCell W1 ab 2 (.slice a n c)
    have hQ2 := hQ.obj hm (hQ.kab.set2 (o.items ++ [⟨mode, mkS nm, (hashP s).1⟩]) (.slice a n c)) hQ.sl
    exact does_of (run_store1 sz_items_r rfl rfl (hQ.kab.cell.2.2.1) (hQ.kab.cell.2.2.2.2.2.2.2.2 2)) ⟨⟨hm.size, hQ2.e⟩, ⟨Own.kept hN hm (.inr (Ne.symm (hN.ne hQ.abk (by decide)))), .slice a n c, hQ2, hI.kept hm (.inr (Ne.symm (hI.neK hQ.abk (by decide)))), hP.kept hm (.inr (Ne.symm (hP.neK hQ.abk (by decide))))⟩, trivial, (by intros; exact FoB.off (by omega)), (by intros; assumption), (by intros; assumption), (by intros; exact FTr.off (by omega)), (by intros; omega), trivial⟩
  · intro W1 hA hC
    obtain ⟨iv', hR⟩ : ∃ iv', RrSt w0 W1 ab sb L dv iv' pv { o with items := o.items ++ [⟨mode, mkS nm, (hashP s).1⟩] } (hashP s).2 := hC.2
    exact hJ W1 iv' hR
def RrD (w0 : World) (ab sb : Nat) (L : List UInt8) (dv iv pv : Value) (o : Ob) (x : ByteArray) (s : Src) (k : Nat) (W : World) : Prop :=
  match k with
  | 0 => RrSt w0 W ab sb L dv iv pv o s
  | 1 => RrSt w0 W ab sb L dv iv pv o (hashP s).2
  | 2 => RrSt w0 W ab sb L dv iv pv o (hashP s).2
  | 3 => RrQ w0 W ab sb L dv iv pv o (hashP s).2 ∧ Own3 W w0.heap.size 87 iv o.items
  | _ => ∃ pv', RrSt w0 W ab sb L dv iv pv' { o with parents := o.parents ++ [x] } (hashP s).2
theorem RrD.ext {w0 W W' : World} {ab sb : Nat} {L : List UInt8} {dv iv pv : Value} {o : Ob} {x : ByteArray} {s : Src} {k : Nat} (h : RrD w0 ab sb L dv iv pv o x s k W) (hE : Ext W W') : RrD w0 ab sb L dv iv pv o x s k W' := by
  match k, h with
  | 0, h => exact RrSt.ext h hE
  | 1, h => exact RrSt.ext h hE
  | 2, h => exact RrSt.ext h hE
  | 3, h => exact ⟨h.1.ext hE, h.2.ext hE⟩
  | n + 4, ⟨iv', h⟩ => exact ⟨iv', RrSt.ext h hE⟩
theorem RrD.q {w0 W : World} {ab sb : Nat} {L : List UInt8} {dv iv pv : Value} {o : Ob} {x : ByteArray} {s : Src} {k : Nat} (h : RrD w0 ab sb L dv iv pv o x s k W) (hk : k ≤ 3) : OBlk W ab 38 dv iv pv o := by
  match k, h, hk with
  | 0, h, _ => exact RrQ.kab (RrSt.q h)
  | 1, h, _ => exact RrQ.kab (RrSt.q h)
  | 2, h, _ => exact RrQ.kab (RrSt.q h)
  | 3, h, _ => exact RrQ.kab h.1
theorem region15_22 {w0 W : World} {ab sb : Nat} {L : List UInt8} {dv iv pv : Value} {o : Ob} {s : Src} {J : VF 0} (h : RrSt w0 W ab sb L dv iv pv o s) (hl : o.parents.length ≤ 1099511627000)
    (hJ : ∀ W' pv', RrSt w0 W' ab sb L dv iv pv' { o with parents := o.parents ++ [(hashP s).1] } (hashP s).2 → J W') :
    DrawP Try.prog 132 (opsOf Try.f15 22) [4, 5] [.pointer (some ⟨sb, 0, none⟩), .pointer (some ⟨ab, 0, none⟩)] [] J W := by
  have hE := h.q.e
  have fO := fun W => run_field_r ab W
  refine h15_22 w0 (RrD w0 ab sb L dv iv pv o (hashP s).1 s) (FoB w0 1 (takeP s 32).1) (FcV (.string (hashP s).1)) (fun k v W => k = 2 → Row W v (strsV [(hashP s).1]))
    (fun k v W => k = 3 → Own W w0.heap.size 9 v (strsV (o.parents ++ [(hashP s).1]))) hE (FoB.st _ _ _) (FcV.st _) (fun k v W W' hE h hk => (h hk).ext hE) (fun k v W W' hE h hk => (h hk).ext hE) (h.ext (Ext.drawn W)) ?_
  refine qx (fun W => (fO W).2.2.2.2.1) (qc (fun W' hS => by obtain ⟨_, k, _, hk, hC⟩ := hS; exact run_load1 agg_strsl (hC.q (by omega)).cell.2.2.2.2.1) (qx (fun W => (fO W).2.2.2.2.1) ⟨?_, ?_, ?_, ?_, ?_, ?_⟩))
  · intro W1 hA hC
    have hR : RrSt w0 W1 ab sb L dv iv pv o s := hC
    refine (rtake_spec (n := 32) hR.q.ksb hR.q.e hR.q.gs hR.q.hL).mono fun v W2 ⟨g1, g2, g3⟩ => ?_
    have hR2 := hR.src g3 g2
    exact ⟨⟨g3.size, hR2.q.e⟩, hR2, fun _ => g1, trivial⟩
  · intro t W1 hA hC hF
    have hl32 : (takeP s 32).1.length ≤ 32 := (takeP_len s 32).2.1
    have hR : RrSt w0 W1 ab sb L dv iv pv o (hashP s).2 := hC
    exact (rhex_spec (hF rfl).row (by omega)).mono fun v W2 ⟨g1, g2⟩ => ⟨⟨g2.size, hA.2.trans g2⟩, hR.ext g2, g1, (by intros; exact FoB.off (by omega)), trivial⟩
  · rintro t W1 hA hC rfl
    refine does_of (run_one_str _ W1) ⟨ext_any _ W1, hC.ext (ext_any _ W1), fun _ => (own_one_str _ W1).row⟩
  · intro t W1 hA hC hF
    have hR : RrSt w0 W1 ab sb L dv iv pv o (hashP s).2 := hC
    obtain ⟨cs, hk⟩ := hR.q.ksb.kp
    refine hR.pars.append u_strs info_str rfl (hF rfl) (strsV_one _) (by simp; omega) (by omega) hR.q.e.size fun v W2 g1 g2 g3 => ?_
    have q2 := hR.pars.neK hR.q.abk (by decide)
    have q3 := hR.pars.neK hk (by decide)
    have hR2 := hR.q.other g2 (fun k hk => (hR.pars.lt k hk).1) q2 q3
    refine ⟨⟨g2.size, hR2.e⟩, ⟨hR2, hR.items.kept g2 ?_⟩, fun _ => by rw [strsV_append]; exact g1, (by intros; exact FoB.off (by omega)), (by intros; assumption), (by intros; omega), trivial⟩
    by_cases hp : iv.ownBlock = none
    · exact .inl hp
    · refine .inr fun e => ?_
      obtain ⟨b, hb⟩ := Option.ne_none_iff_exists'.1 hp
      obtain ⟨cur, hc⟩ := hR.items.block b hb
      exact hR.pars.neK (t := 87) hc (by decide) (by rw [← e, hb])
  · intro t W1 hA hC hF
    obtain ⟨hQ, hI⟩ : RrQ w0 W1 ab sb L dv iv pv o (hashP s).2 ∧ Own3 W1 w0.heap.size 87 iv o.items := hC
    have hP := hF rfl
    obtain ⟨a, n, c, rfl⟩ := own_slice hP
    have hm := Mod.setCell W1 ab 4 (.slice a n c)
    have hQ2 := hQ.obj hm (hQ.kab.set4 (o.parents ++ [(hashP s).1]) (.slice a n c)) hQ.sl
    exact does_of (run_store1 sz_strs' rfl rfl (hQ.kab.cell.2.2.2.2.1) (hQ.kab.cell.2.2.2.2.2.2.2.2 4)) ⟨⟨hm.size, hQ2.e⟩, ⟨.slice a n c, hQ2, hI.kept hm (.inr (Ne.symm (hI.neK hQ.abk (by decide)))), hP.kept hm (.inr (Ne.symm (hP.neK hQ.abk (by decide))))⟩, trivial, (by intros; exact FoB.off (by omega)), (by intros; assumption), (by intros; omega), (by intros; omega), trivial⟩
  · intro W1 hA hC
    obtain ⟨pv', hR⟩ : ∃ pv', RrSt w0 W1 ab sb L dv iv pv' { o with parents := o.parents ++ [(hashP s).1] } (hashP s).2 := hC
    exact hJ W1 pv' hR
section
variable {w0 W : World} {ab sb : Nat} {L : List UInt8} {dv iv pv : Value} {o : Ob} {s : Src} {k : Unit → World → Prop}
theorem RrSt.set {dv' : Value} {o' : Ob} {i : Nat} {x : Value} (h : RrSt w0 W ab sb L dv iv pv o s) (ha : OBlk (W.setCell ⟨ab, i, none⟩ x) ab 38 dv' iv pv o') (hd : ∃ a n c, dv' = .slice a n c) (hi : o'.items = o.items) (hp : o'.parents = o.parents) : RrSt w0 (W.setCell ⟨ab, i, none⟩ x) ab sb L dv' iv pv o' s := by
  have hm := Mod.setCell W ab i x
  exact ⟨h.q.obj hm ha hd, by rw [hi]; exact h.items.kept hm (.inr (Ne.symm (h.items.neK h.q.abk (by decide)))), by rw [hp]; exact h.pars.kept hm (.inr (Ne.symm (h.pars.neK h.q.abk (by decide))))⟩
theorem RrSt.set3 {x : ByteArray} (h : RrSt w0 W ab sb L dv iv pv o s) (hk : ∀ W', RrSt w0 W' ab sb L dv iv pv { o with tree := x } s → k () W') : Does Try.prog (Instr.fieldAt 38 (.pointer (some ⟨ab, 0, none⟩)) 3) W fun t w => Does Try.prog (Instr.storeAt 9 t (.string x)) w k :=
  does_of (run_field_r ab W).2.2.2.1 (does_of (run_store1 sz_str rfl rfl h.q.kab.cell.2.2.2.1 (h.q.kab.cell.2.2.2.2.2.2.2.2 3)) (hk _ (h.set (h.q.kab.set3 x) h.q.sl rfl rfl)))
theorem RrSt.set5 {x : Int} (h : RrSt w0 W ab sb L dv iv pv o s) (hk : ∀ W', RrSt w0 W' ab sb L dv iv pv { o with stamp := x } s → k () W') : Does Try.prog (Instr.fieldAt 38 (.pointer (some ⟨ab, 0, none⟩)) 5) W fun t w => Does Try.prog (Instr.storeAt 3 t (.int .i64 x)) w k :=
  does_of (run_field_r ab W).2.2.2.2.2.1 (does_of (run_store1 sz_int' rfl rfl h.q.kab.cell.2.2.2.2.2.1 (h.q.kab.cell.2.2.2.2.2.2.2.2 5)) (hk _ (h.set (h.q.kab.set5 x) h.q.sl rfl rfl)))
theorem RrSt.set6 {x : Int} (h : RrSt w0 W ab sb L dv iv pv o s) (hk : ∀ W', RrSt w0 W' ab sb L dv iv pv { o with author := x } s → k () W') : Does Try.prog (Instr.fieldAt 38 (.pointer (some ⟨ab, 0, none⟩)) 6) W fun t w => Does Try.prog (Instr.storeAt 3 t (.int .i64 x)) w k :=
  does_of (run_field_r ab W).2.2.2.2.2.2.1 (does_of (run_store1 sz_int' rfl rfl h.q.kab.cell.2.2.2.2.2.2.1 (h.q.kab.cell.2.2.2.2.2.2.2.2 6)) (hk _ (h.set (h.q.kab.set6 x) h.q.sl rfl rfl)))
theorem RrSt.set7 {x : ByteArray} (h : RrSt w0 W ab sb L dv iv pv o s) (hk : ∀ W', RrSt w0 W' ab sb L dv iv pv { o with msg := x } s → k () W') : Does Try.prog (Instr.fieldAt 38 (.pointer (some ⟨ab, 0, none⟩)) 7) W fun t w => Does Try.prog (Instr.storeAt 9 t (.string x)) w k :=
  does_of (run_field_r ab W).2.2.2.2.2.2.2 (does_of (run_store1 sz_str rfl rfl h.q.kab.cell.2.2.2.2.2.2.2.1 (h.q.kab.cell.2.2.2.2.2.2.2.2 7)) (hk _ (h.set (h.q.kab.set7 x) h.q.sl rfl rfl)))
theorem RrSt.set1 {x : Value} {l : List UInt8} (h : RrSt w0 W ab sb L dv iv pv o s) (hx : ∃ a n c, x = .slice a n c) (hk : ∀ W', RrSt w0 W' ab sb L x iv pv { o with data := l } s → Mod (some ab) W W' → k () W') : Does Try.prog (Instr.fieldAt 38 (.pointer (some ⟨ab, 0, none⟩)) 1) W fun t w => Does Try.prog (Instr.storeAt 34 t x) w k := by
  obtain ⟨a, n, c, rfl⟩ := hx
  exact does_of (run_field_r ab W).2.1 (does_of (run_store1 sz_bytes rfl rfl h.q.kab.cell.2.1 (h.q.kab.cell.2.2.2.2.2.2.2.2 1)) (hk _ (h.set (h.q.kab.set1 l _) ⟨a, n, c, rfl⟩ rfl rfl) (Mod.setCell _ _ _ _)))
end
end Go.Proofs.Ytcncgkkilgmphaa

set_option linter.unusedVariables false
set_option linter.unusedSimpArgs false
namespace Go.Proofs.Ytcncgkkilgmphaa
open Go Go.RowKit

theorem run_kind_r (k : Int) (w : World) : (Instr.build 38 #[(0, .int .i64 k)]).run Try.prog w = .ok (ObV (.slice none 0 0) (.slice none 0 0) (.slice none 0 0) { ob0 with kind := k }) w := by
  simp [go_sem, Instr.build, ObV, ObC, ob0, noS]
theorem run_buildR {v : Value} (hv : ∃ a n c, v = .slice a n c) (w : World) : (Instr.build 84 #[(0, v), (1, .int .i64 1)]).run Try.prog w = .ok (.agg #[v, .int .i64 1, .bool false]) w := by
  obtain ⟨a, n, c, rfl⟩ := hv
  simp [go_sem, Instr.build]
theorem run_boxR {v : Value} (hv : ∃ a n c, v = .slice a n c) (w : World) : (Instr.box 84 (.agg #[v, .int .i64 1, .bool false])).run Try.prog w = .ok (.pointer (some ⟨w.heap.size, 0, none⟩)) (w.alloc (.cells #[v, .int .i64 1, .bool false] 84)) := by
  obtain ⟨a, n, c, rfl⟩ := hv
  simp [go_sem, Instr.box]
theorem rnumP_le (s : Src) : (rnumP s).1 ≤ 72057594037927936 := by
  unfold rnumP
  have := (getR_le (b := s.1)).2.1
  split
  · simp
  · exact this
set_option maxHeartbeats 2000000 in
theorem rdecode_spec {w : World} {v : Value} {l : List UInt8} (hr : Row w v (bytesV l)) (hl : l.length ≤ 1048576) : Call Try.prog 15 #[v] w fun r w' => DecR w w' 87 l r := by
  apply vc15
  unfold V15
  refine does_of (run_alloc_r w) ?_
  have hE1 := ext_any (.cells (ObC (.slice none 0 0) (.slice none 0 0) (.slice none 0 0) ob0) 38) w
  have hb1 : OBlk (w.alloc (.cells (ObC (.slice none 0 0) (.slice none 0 0) (.slice none 0 0) ob0) 38)) w.heap.size 38 (.slice none 0 0) (.slice none 0 0) (.slice none 0 0) ob0 := heap_alloc_new w _
  generalize w.alloc (.cells (ObC (.slice none 0 0) (.slice none 0 0) (.slice none 0 0) ob0) 38) = w1 at hE1 hb1
  have bad : ∀ {W : World} {e : Int}, Ext w1 W → (∀ o, May o → enc o ≠ l) → e = (if l.length = 0 then 2 else 4) → Does Try.prog (Instr.build 38 #[]) W fun t w' => Does Try.prog (Instr.storeAt 38 (.pointer (some ⟨w.heap.size, 0, none⟩)) t) w' fun _ w' => SameP Try.prog (loadRes 38 (.pointer (some ⟨w.heap.size, 0, none⟩))) w' fun r0 => DecR w w' 87 l (.tuple #[r0, .int .i64 e]) := by
    intro W e hE hno he
    obtain ⟨W2, s1, s2, s3⟩ := run_store_r (isOb0 W) (hb1.ext hE)
    refine does_of (run_new_r W) (does_of s1 (same_load_r (isOb0 W2) s2 ⟨Mod.ext (hE1.trans hE) s3 fun k hk => by cases hk; exact Nat.le_refl _, .inr ⟨hno, by rw [he]⟩⟩))
  refine (hr.ext hE1).len u_bytes (does_of (run_eqI w1) (condP_of (fun h0 => ?_) fun h0 => ?_))
  · have hl0 : l = [] := by simpa using h0
    refine bad (Ext.refl _) (fun o ho he => ?_) (by simp [hl0])
    rw [hl0] at he
    simp [enc] at he
  cases l with
  | nil => simp at h0
  | cons c b =>
    simp only [List.length_cons] at hl
    refine (copyBytes_spec (hr.ext hE1) (by simp; omega)).mono fun bv w2 ⟨hbv, hE2⟩ => ?_
    have hbs := own_slice hbv
    refine does_of (run_buildR hbs w2) (does_of (run_boxR hbs w2) ?_)
    have hE3 := ext_any (.cells #[bv, .int .i64 1, .bool false] 84) w2
    have hb3 : Kp w2.heap.size #[bv, .int .i64 ((1 : Nat) : Int), .bool false] 84 (w2.alloc (.cells #[bv, .int .i64 1, .bool false] 84)) := heap_alloc_new w2 _
    generalize w2.alloc (.cells #[bv, .int .i64 1, .bool false] 84) = w3 at hE3 hb3
    refine does_byteAt (i := 0) hr ((hE1.trans hE2).trans hE3) rfl (does_of (run_conv53 c w3) (does_of (run_kind_r _ w3) (does_of (run_alloc_r w3) ?_)))
    have hE4 := ext_any (.cells (ObC (.slice none 0 0) (.slice none 0 0) (.slice none 0 0) ob0) 38) w3
    have hb4 : OBlk (w3.alloc (.cells (ObC (.slice none 0 0) (.slice none 0 0) (.slice none 0 0) ob0) 38)) w3.heap.size 38 (.slice none 0 0) (.slice none 0 0) (.slice none 0 0) ob0 := heap_alloc_new w3 _
    generalize w3.alloc (.cells (ObC (.slice none 0 0) (.slice none 0 0) (.slice none 0 0) ob0) 38) = w4 at hE4 hb4
    obtain ⟨w5, st5, hb5, hm5⟩ := run_store_r (w0 := w) (o' := { ob0 with kind := (c.toNat : Int) }) ⟨Row.nil _ _ _, IR.nil _ _ _, Row.nil _ _ _⟩ hb4
    refine does_of st5 ?_
    have h35 := hE3.size
    have hSt : RrSt w2 w5 w3.heap.size w2.heap.size (c :: b) nilV nilV nilV { ob0 with kind := (c.toNat : Int) } (b, false) :=
      ⟨⟨Mod.ext (hE3.trans hE4) hm5 fun k hk => by cases hk; exact h35, hb5, ⟨bv, 1, (hb3.ext hE4).mod hm5 fun e => by have := hb3.lt; simp at e; omega, hbv.row, by simp, rfl⟩, h35, Nat.le_refl _, ⟨_, _, _, rfl⟩, by simp; omega⟩, Own3.nil _ _ _, Own.nil _ _ _⟩
    generalize w3.heap.size = ab at hSt
    generalize w2.heap.size = sb at hSt
    generalize hkd : (c.toNat : Int) = kind at hSt
    have hw2 : Ext w w2 := hE1.trans hE2
    clear hb5 hm5 st5 hb4 hE4 hb3 hE3
    refine join0 (fun W => ∃ dv iv pv s', RrSt w2 W ab sb (c :: b) dv iv pv (parse rnumP kind b).1 s' ∧ OwnB w2 W dv (parse rnumP kind b).1.data ∧ s'.2 = (parse rnumP kind b).2) ?_ ?_
    rotate_left
    · intro j1 hj1
      have hF5 : ∀ (k : Value → World → Prop), k (.int .i64 kind) w5 → Does Try.prog (Instr.fieldAt 38 (.pointer (some ⟨ab, 0, none⟩)) 0) w5 fun t w => Does Try.prog (Instr.loadAt 3 t) w k := fun k hk => does_of (run_field_r ab w5).1 (does_load1 agg_i64 hSt.q.kab.cell.1 hk)
      refine hF5 _ ?_
      have hsbge := hSt.q.gs
      unfold parse at hj1
      refine does_of (run_eqI w5) (condP_of (fun hk => ?_) fun hk1 => ?_)
      · have hk : kind = 1 := by simpa using hk
        rw [if_pos hk] at hj1
        subst hk
        refine hr.len u_bytes (does_sub (by simp) (by simp; omega) ?_)
        rw [show (((bytesV (c :: b)).length : Nat) : Int) - 1 = ((b.length : Nat) : Int) by simp]
        refine (rtake_spec hSt.q.ksb hSt.q.e hsbge hSt.q.hL).mono fun u w6 ⟨g1, g2, g3⟩ => ?_
        have hS6 := hSt.src g3 g2
        have et : takeP (b, false) b.length = (b, ([], false)) := by
          have := takeP_app (x := b) (rest := []) (n := b.length) rfl
          simpa using this
        rw [et] at g1 hS6
        refine hS6.set1 (l := b) (own_slice g1) fun w7 hS7 hm7 => hj1 w7 ⟨_, _, _, _, hS7, ?_, rfl⟩
        exact Own.kept g1 hm7 (.inr (Ne.symm (g1.ne hS6.q.abk (by decide))))
      have hk1 : kind ≠ 1 := by simpa using hk1
      rw [if_neg hk1] at hj1
      refine does_of (run_eqI w5) (condP_of (fun hk => ?_) fun hk2 => ?_)
      · have hk : kind = 2 := by simpa using hk
        rw [if_pos hk] at hj1
        subst hk
        refine (rnum_spec hSt.q.ksb hSt.q.e hSt.q.hL).mono fun u w6 ⟨h1, h2, h3⟩ => ?_
        subst h1
        have hS5 := hSt.src h3 h2
        have hd0 := rnumP_down (b, false)
        generalize hT : itemsP rnumP (rnumP (b, false)).1 (rnumP (b, false)).2 [] = T at hj1
        have hnum := rnumP_le (b, false)
        refine rounds1 (σ := ItSt) (fun t => .int .i64 t.i) (fun t W => t.i ≤ (rnumP (b, false)).1 ∧ RrSt w2 W ab sb (c :: b) nilV t.iv nilV { ob0 with kind := 2, items := t.acc } t.s ∧ itemsP rnumP ((rnumP (b, false)).1 - t.i) t.s t.acc = T ∧ t.s.1.length + t.acc.length ≤ b.length + (if t.s.2 then 1 else 0) ∧ t.s.1.length ≤ b.length)
          (fun t _ => (rnumP (b, false)).1 - t.i) ⟨0, nilV, (rnumP (b, false)).2, []⟩ rfl ⟨Nat.zero_le _, hS5, hT, by simp only [List.length_nil]; have := hd0.1; simp only at this; omega, hd0.1⟩ ?_
        rintro next ⟨i, iv, s, acc⟩ W ⟨hi, hS, hP, hlen, hsl⟩ hnext _
        simp only at hi hS hP hlen hsl ⊢
        refine does_lt ?_
        refine and_join (!s.2) (fun _ j hj => ?_) ?_
        · rw [nilP_some]
          exact hS.q.ksb.isBad (does_of (run_not W) hj)
        refine condP_of (fun hgo => ?_) fun hstop => ?_
        · simp only [Bool.and_eq_true, decide_eq_true_eq, Bool.not_eq_true'] at hgo
          obtain ⟨hlt, hs2⟩ := hgo
          have hlt' : i < (rnumP (b, false)).1 := by omega
          rw [show (rnumP (b, false)).1 - i = ((rnumP (b, false)).1 - (i + 1)) + 1 by omega] at hP
          unfold itemsP at hP
          rw [if_neg (by simp [hs2])] at hP
          have hil := itemP_len rnumP_down s
          refine (rbyte_spec hS.q.ksb hS.q.e hS.q.gs hS.q.hL).mono fun u W1 ⟨a1, a2, a3⟩ => ?_
          subst a1
          have hS1 := hS.src a3 a2
          refine (rnum_spec hS1.q.ksb hS1.q.e hS1.q.hL).mono fun u W2 ⟨b1, b2, b3⟩ => ?_
          subst b1
          have hS2 := hS1.src b3 b2
          refine (rtake_spec hS2.q.ksb hS2.q.e hS2.q.gs hS2.q.hL).mono fun u W3 ⟨c1, c2, c3⟩ => ?_
          have hS3 := hS2.src c3 c2
          rw [hs2] at hlen
          simp only [Bool.false_eq_true, if_false] at hlen
          refine region15_15 hS3 c1 (by simp only; omega) fun W4 iv4 hS4 _ => ?_
          refine does_add (by omega) (by omega) (hnext ⟨i + 1, iv4, (itemP rnumP s).2, acc ++ [(itemP rnumP s).1]⟩ _ W4 (by simp) ⟨hlt', hS4, hP, ?_, by simp only; omega⟩ (by simp only; omega))
          simp only [List.length_append, List.length_cons, List.length_nil]
          cases hq : (itemP rnumP s).2.2 with
          | true => simp only [if_true]; omega
          | false => have := hil.2.1 hq; simp only [Bool.false_eq_true, if_false]; omega
        · have hTe : (acc, s) = T := by
            rw [← hP]
            rcases Nat.eq_zero_or_pos ((rnumP (b, false)).1 - i) with h0 | h0
            · rw [h0]; rfl
            · rw [show (rnumP (b, false)).1 - i = ((rnumP (b, false)).1 - (i + 1)) + 1 by omega]
              unfold itemsP
              have hs2 : s.2 = true := by
                simp only [Bool.and_eq_false_iff, decide_eq_false_iff_not, Bool.not_eq_false'] at hstop
                rcases hstop with h | h
                · omega
                · exact h
              rw [if_pos hs2]
          rw [← hTe] at hj1
          exact hj1 W ⟨_, _, _, _, hS, OwnB.nil _ _, rfl⟩
      have hk2 : kind ≠ 2 := by simpa using hk2
      rw [if_neg hk2] at hj1
      refine does_of (run_eqI w5) (condP_of (fun hk => ?_) fun hk3 => ?_)
      · have hk : kind = 3 := by simpa using hk
        rw [if_pos hk] at hj1
        subst hk
        have hl32 : (takeP (b, false) 32).1.length ≤ 32 := (takeP_len (b, false) 32).2.1
        refine (rtake_spec (n := 32) hSt.q.ksb hSt.q.e hsbge hSt.q.hL).mono fun u w6 ⟨h1, h2, h3⟩ => ?_
        refine (rhex_spec h1.row (by omega)).mono fun u w7 ⟨g1, g2⟩ => ?_
        subst g1
        have hS7 := (hSt.src (s' := (hashP (b, false)).2) h3 h2).ext g2
        refine hS7.set3 fun w8 hS8 => ?_
        have hl1 := (hashP_len (b, false)).1
        have hl2 := (takeP_len (hashP (b, false)).2 1).2.2.1
        refine (rbyte_spec hS8.q.ksb hS8.q.e hS8.q.gs hS8.q.hL).mono fun u w9 ⟨a1, a2, a3⟩ => ?_
        subst a1
        have hS9 := hS8.src a3 a2
        unfold parseC at hj1
        simp only at hj1
        generalize hT : hashesP (oneP (hashP (b, false)).2).1 (oneP (hashP (b, false)).2).2 [] = T at hj1
        have hN : (oneP (hashP (b, false)).2).1 < 256 := by unfold oneP; exact UInt8.toNat_lt _
        refine rounds1 (σ := PaSt) (fun t => .int .i64 t.i) (fun t W => t.i ≤ (oneP (hashP (b, false)).2).1 ∧ RrSt w2 W ab sb (c :: b) nilV nilV t.pv { ob0 with kind := 3, tree := (hashP (b, false)).1, parents := t.acc } t.s ∧ hashesP ((oneP (hashP (b, false)).2).1 - t.i) t.s t.acc = T ∧ t.s.1.length + t.acc.length ≤ b.length + (if t.s.2 then 1 else 0) ∧ t.s.1.length ≤ b.length)
          (fun t _ => (oneP (hashP (b, false)).2).1 - t.i) ⟨0, nilV, (oneP (hashP (b, false)).2).2, []⟩ rfl ⟨Nat.zero_le _, hS9, hT, by unfold oneP; simp only [List.length_nil]; simp only at hl1; omega, by unfold oneP; simp only at hl1 ⊢; omega⟩ ?_
        rintro next ⟨i, pv, s, acc⟩ W ⟨hi, hS, hP, hlen, hsl⟩ hnext _
        simp only at hi hS hP hlen hsl ⊢
        refine does_lt ?_
        refine and_join (!s.2) (fun _ j hj => ?_) ?_
        · rw [nilP_some]
          exact hS.q.ksb.isBad (does_of (run_not W) hj)
        refine condP_of (fun hgo => ?_) fun hstop => ?_
        · simp only [Bool.and_eq_true, decide_eq_true_eq, Bool.not_eq_true'] at hgo
          obtain ⟨hlt, hs2⟩ := hgo
          have hlt' : i < (oneP (hashP (b, false)).2).1 := by omega
          rw [show (oneP (hashP (b, false)).2).1 - i = ((oneP (hashP (b, false)).2).1 - (i + 1)) + 1 by omega] at hP
          unfold hashesP at hP
          rw [if_neg (by simp [hs2])] at hP
          have hil := hashP_len s
          rw [hs2] at hlen
          simp only [Bool.false_eq_true, if_false] at hlen
          refine region15_22 hS (by simp only; omega) fun W4 pv4 hS4 _ => ?_
          refine does_add (by omega) (by omega) (hnext ⟨i + 1, pv4, (hashP s).2, acc ++ [(hashP s).1]⟩ _ W4 (by simp) ⟨hlt', hS4, hP, ?_, by simp only; omega⟩ (by simp only; omega))
          simp only [List.length_append, List.length_cons, List.length_nil]
          cases hq : (hashP s).2.2 with
          | true => simp only [if_true]; omega
          | false => have := hil.2.1 hq; simp only [Bool.false_eq_true, if_false]; omega
        · have hTe : (acc, s) = T := by
            rw [← hP]
            rcases Nat.eq_zero_or_pos ((oneP (hashP (b, false)).2).1 - i) with h0 | h0
            · rw [h0]; rfl
            · rw [show (oneP (hashP (b, false)).2).1 - i = ((oneP (hashP (b, false)).2).1 - (i + 1)) + 1 by omega]
              unfold hashesP
              have hs2 : s.2 = true := by
                simp only [Bool.and_eq_false_iff, decide_eq_false_iff_not, Bool.not_eq_false'] at hstop
                rcases hstop with h | h
                · omega
                · exact h
              rw [if_pos hs2]
          rw [← hTe] at hj1
          refine (rnum_spec hS.q.ksb hS.q.e hS.q.hL).mono fun u W1 ⟨b1, b2, b3⟩ => ?_
          subst b1
          have hS1 := hS.src b3 b2
          refine (rnum_spec hS1.q.ksb hS1.q.e hS1.q.hL).mono fun u W2 ⟨c1, c2, c3⟩ => ?_
          subst c1
          have hS2 := hS1.src c3 c2
          refine hS2.set5 fun W3 hS3 => hS3.set6 fun W4 hS4 => ?_
          refine (rnum_spec hS4.q.ksb hS4.q.e hS4.q.hL).mono fun u W5 ⟨e1, e2, e3⟩ => ?_
          subst e1
          have hS5 := hS4.src e3 e2
          refine (rtake_spec hS5.q.ksb hS5.q.e hS5.q.gs hS5.q.hL).mono fun u W6 ⟨f1, f2, f3⟩ => ?_
          have hS6 := hS5.src f3 f2
          exact does_of (run_conv_str f1.row) (hS6.set7 fun W7 hS7 => hj1 W7 ⟨_, _, _, _, hS7, OwnB.nil _ _, rfl⟩)
      · have hk3 : kind ≠ 3 := by simpa using hk3
        rw [if_neg hk3] at hj1
        exact hj1 w5 ⟨_, _, _, _, hSt, OwnB.nil _ _, rfl⟩
    rintro W ⟨dv, iv, pv, s', hS, hd, hs'⟩ _
    have hmod := parse_modest (num := rnumP) rnumP_down (kind := kind) (l := b) (by omega)
    have hO : OwnOb w2 W 87 dv iv pv (parse rnumP kind b).1 := ⟨hd, hS.items, hS.pars⟩
    have hdec : ∀ o', May o' → enc o' = c :: b → (o', false) = parse rnumP kind b := fun o' h1 h2 => by
      have := dec_enc reads_rnum h1 h2
      rw [← hkd, this]
    generalize hP : parse rnumP kind b = pr at hS hd hs' hmod hO hdec
    obtain ⟨o, bd⟩ := pr
    simp only at hS hd hs' hmod hO hdec
    have hEW : Ext w1 W := hE2.trans hS.q.e
    refine does_of (run_load_r hO.isOb hS.q.kab) ((rencode_spec hO.isOb hmod).mono fun r W2 ⟨hE2', hr2⟩ => ?_)
    have hE12 : Ext w1 W2 := hEW.trans hE2'
    have hS2 := hS.ext hE2'
    obtain ⟨er, sv, hbad, hgood, hrr⟩ : ∃ (er : Int) (sv : Value), (bd = true ∨ er ≠ 0 → ∀ o, May o → enc o ≠ c :: b) ∧ (er = 0 → May o ∧ OwnB W W2 sv (enc o)) ∧ r = .tuple #[sv, .int .i64 er] := by
      rcases hr2 with ⟨hmay, s, rfl, hs⟩ | ⟨hnot, rfl⟩
      · refine ⟨0, s, fun h o' h1 h2 => ?_, fun _ => ⟨hmay, hs⟩, rfl⟩
        have := hdec o' h1 h2
        rcases h with h | h
        · rw [h] at this; simp at this
        · exact h rfl
      · refine ⟨1, _, fun _ o' h1 h2 => ?_, fun h => by omega, rfl⟩
        have := hdec o' h1 h2
        simp only [Prod.mk.injEq] at this
        rw [this.1] at h1
        exact hnot h1
    subst hrr
    refine ex2a (ex2b ?_)
    rw [nilP_some]
    refine hS2.q.ksb.isBad ?_
    rw [hs']
    refine or_join (!decide (er = 0)) (fun _ j hj => does_of (run_neI W2) hj) ?_
    have hb2 := hS2.q.kab
    refine join1 (fun t W' => W' = W2 ∧ ((bd || !decide (er = 0)) = false → t = .bool (!decide (enc o = c :: b)))) ?_ ?_
    rotate_left
    · intro j hj
      refine guardP_of (fun h => ?_) fun h => hj _ _ ⟨rfl, fun h' => absurd h' h⟩
      simp only [Bool.or_eq_false_iff, Bool.not_eq_false', decide_eq_true_eq] at h
      obtain ⟨hmay, hs⟩ := hgood h.2
      refine (rbytes_spec hs.row ((hr.ext hE1).ext hE12)).mono fun u W3 ⟨g1, g2⟩ => ?_
      subst g1 g2
      exact does_of (run_not W3) (hj _ _ ⟨rfl, fun _ => rfl⟩)
    rintro t W3 ⟨rfl, ht⟩ _
    refine pickP_of ?_
    by_cases hq : (bd || !decide (er = 0)) = true
    · rw [if_pos hq, condP_true]
      refine bad hE12 (hbad ?_) (by simp)
      simpa using hq
    · have hq' : (bd || !decide (er = 0)) = false := by simpa using hq
      rw [if_neg hq, ht hq']
      simp only [Bool.or_eq_false_iff, Bool.not_eq_false', decide_eq_true_eq] at hq'
      obtain ⟨hmay, hs⟩ := hgood hq'.2
      refine condP_of (fun hb => ?_) fun hb => ?_
      · simp only [Bool.not_eq_true', decide_eq_false_iff_not] at hb
        refine bad hE12 (fun o' h1 h2 => ?_) (by simp)
        have := hdec o' h1 h2
        simp only [Prod.mk.injEq] at this
        rw [this.1] at h2
        exact hb h2
      · simp only [Bool.not_eq_false', decide_eq_true_eq] at hb
        have hO3 := hO.ext hE2'
        obtain ⟨W4, s1, s2, s3⟩ := run_store_r hO3.isOb (hb1.ext hE12)
        have hO4 := hO3.mod (hb1.ext hE12 : Kp w.heap.size zObC 38 W3) (by decide) (by decide) (by decide) s3
        exact does_of (run_load_r hO3.isOb hb2) (does_of s1 (same_load_r hO4.isOb s2 ⟨Mod.ext (hE1.trans hE12) s3 fun k hk => by cases hk; exact Nat.le_refl _, .inl ⟨o, dv, iv, pv, hmay, hb, rfl, hO4.back hw2.size⟩⟩))
theorem rrefs_spec {w : World} {dv iv pv : Value} {o : Ob} (h : IsOb w dv iv pv o) (hl : (refsOf o).length ≤ 1048576) : Call Try.prog 16 #[ObV dv iv pv o] w fun r w' => Ext w w' ∧ Own w' w.heap.size 9 r (strsV (refsOf o)) := by
  apply vc16
  unfold V16
  refine box_r h fun w1 hE1 hF => hF.f0 (does_of (run_eqI w1) (condP_of (fun hk => ?_) fun hk2 => ?_))
  · have hk : o.kind = 2 := by simpa using hk
    have hre : refsOf o = o.items.map (·.id) := by simp [refsOf, hk]
    rw [hre] at hl ⊢
    simp only [List.length_map] at hl
    refine rounds2 (σ := RefSt) (fun s => s.v) (fun s => .int .i64 s.i) (fun s W => s.i ≤ o.items.length ∧ Ext w1 W ∧ Own W w1.heap.size 9 s.v (strsV ((o.items.take s.i).map (·.id)))) (fun s _ => o.items.length - s.i) ⟨.slice none 0 0, 0⟩ rfl rfl ⟨Nat.zero_le _, Ext.refl _, Own.nil _ _ _⟩ ?_
    rintro next ⟨va, i⟩ W ⟨hi, hE, ho⟩ hnext _
    simp only at hi ho ⊢
    have hFW := hF.ext hE
    refine hFW.f2 (hFW.ob.items.len_r (does_lt (condP_of (fun hlt => ?_) fun hge => ?_)))
    · have hlt' : i < o.items.length := by simpa using hlt
      obtain ⟨p, hp, hidx, c0, c1, c2⟩ := hF.ob.items.at_r (List.getElem?_eq_getElem hlt')
      refine hFW.f2 (does_of (hidx .i64 W) (does_of (run_fieldI_r hp W).2.2 (does_load1 agg_str (hE.cell c2) (does_of (run_one_str _ W) ?_))))
      have hE3 := hE.trans (ext_any (.cells #[.string o.items[i].id] 9) W)
      refine (ho.ext (ext_any _ W)).pushS hE3 (own_one_str _ W).row (by simp; omega) fun v' W3 g1 g2 _ => ?_
      refine does_add (by omega) (by omega) (hnext ⟨v', i + 1⟩ _ _ W3 rfl (by simp) ⟨hlt', g2, ?_⟩ (by simp only; omega))
      simp only
      rw [List.take_succ_eq_append_getElem hlt', List.map_append]
      exact g1
    · have hie : i = o.items.length := by simp at hge; omega
      rw [hie, List.take_length] at ho
      exact ⟨hE1.trans hE, ho.mono hE1.size⟩
  have hk2 : o.kind ≠ 2 := by simpa using hk2
  refine does_of (run_eqI w1) (condP_of (fun hk => ?_) fun hk3 => ?_)
  · have hk : o.kind = 3 := by simpa using hk
    have hre : refsOf o = [o.tree] ++ o.parents := by simp [refsOf, hk]
    rw [hre] at hl ⊢
    simp only [List.length_append, List.length_cons, List.length_nil] at hl
    refine hF.f3 (does_of (run_one_str _ w1) ?_)
    have hF2 := hF.ext (ext_any (.cells #[.string o.tree] 9) w1)
    refine hF2.f4 ((own_one_str _ w1).pushS (w0 := w1) (ext_any _ w1) hF2.ob.pars (by simp only [List.length_cons, List.length_nil]; omega) fun v' W3 g1 g2 _ => ⟨hE1.trans g2, g1.mono hE1.size⟩)
  · have hk3 : o.kind ≠ 3 := by simpa using hk3
    have hre : refsOf o = [] := by simp [refsOf, hk2, hk3]
    rw [hre]
    exact ⟨hE1, Own.nil _ _ _⟩
end Go.Proofs.Ytcncgkkilgmphaa
