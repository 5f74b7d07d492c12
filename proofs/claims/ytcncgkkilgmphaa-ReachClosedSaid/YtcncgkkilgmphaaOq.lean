/-
  Contracts: marref6.Reader (Take, Byte, Num).
-/
import Derived.Test.YtcncgkkilgmphaaOp
set_option linter.unusedVariables false
set_option linter.unusedSimpArgs false
namespace Go.Proofs.Ytcncgkkilgmphaa
open Go Go.RowKit

def RdrB (w0 W : World) (sb : Nat) (L : List UInt8) (s : Src) : Prop := ∃ bv P, Kp sb #[bv, .int .i64 ((P : Nat) : Int), .bool s.2] 84 W ∧ Row w0 bv (bytesV L) ∧ P ≤ L.length ∧ s.1 = L.drop P
theorem RdrB.ext {w0 W W' : World} {sb : Nat} {L : List UInt8} {s : Src} (h : RdrB w0 W sb L s) (hE : Ext W W') : RdrB w0 W' sb L s := let ⟨bv, P, h1, h2⟩ := h; ⟨bv, P, h1.ext hE, h2⟩
theorem RdrB.mod {w0 W W' : World} {sb : Nat} {L : List UInt8} {s : Src} {row : Option Nat} (h : RdrB w0 W sb L s) (hm : Mod row W W') (hne : some sb ≠ row) : RdrB w0 W' sb L s := let ⟨bv, P, h1, h2⟩ := h; ⟨bv, P, h1.mod hm hne, h2⟩
theorem RdrB.kp {w0 W : World} {sb : Nat} {L : List UInt8} {s : Src} (h : RdrB w0 W sb L s) : ∃ cs, Kp sb cs 84 W := let ⟨bv, P, h1, _⟩ := h; ⟨_, h1⟩
theorem run_fieldR (b : Nat) (w : World) : (Instr.fieldAt 84 (.pointer (some ⟨b, 0, none⟩)) 0).run Try.prog w = .ok (.pointer (some ⟨b, 0, none⟩)) w ∧ (Instr.fieldAt 84 (.pointer (some ⟨b, 0, none⟩)) 1).run Try.prog w = .ok (.pointer (some ⟨b, 1, none⟩)) w ∧
    (Instr.fieldAt 84 (.pointer (some ⟨b, 0, none⟩)) 2).run Try.prog w = .ok (.pointer (some ⟨b, 2, none⟩)) w := by
  refine ⟨?_, ?_, ?_⟩ <;> simp [go_sem, Instr.fieldAt, Addr.add]
section
variable {w0 w : World} {sb : Nat} {L : List UInt8} {s : Src}
theorem RdrB.bad {k : Unit → World → Prop} (h : RdrB w0 w sb L s) (hk : ∀ W, RdrB w0 W sb L (s.1, true) → Mod (some sb) w W → k () W) : Does Try.prog (Instr.fieldAt 84 (.pointer (some ⟨sb, 0, none⟩)) 2) w fun t w => Does Try.prog (Instr.storeAt 4 t (.bool true)) w k := by
  obtain ⟨bv, P, h1, h2, h3, h4⟩ := h
  exact does_of (run_fieldR sb w).2.2 (does_of (run_store1 sz_bool rfl rfl (h1.cell (i := 2) rfl) h1.frozen) (hk _ ⟨bv, P, h1.set _, h2, h3, h4⟩ (Mod.setCell w sb 2 _)))
theorem RdrB.isBad {k : Value → World → Prop} (h : RdrB w0 w sb L s) (hk : k (.bool s.2) w) : Does Try.prog (Instr.fieldAt 84 (.pointer (some ⟨sb, 0, none⟩)) 2) w fun t w => Does Try.prog (Instr.loadAt 4 t) w k := by
  obtain ⟨bv, P, h1, h2, h3, h4⟩ := h
  exact does_of (run_fieldR sb w).2.2 (does_load1 agg_bool (h1.cell rfl) hk)
end
theorem rtake_spec {w0 w : World} {sb n : Nat} {L : List UInt8} {s : Src} (h : RdrB w0 w sb L s) (hE : Ext w0 w) (hsb : w0.heap.size ≤ sb) (hL : L.length ≤ 1048577) :
    Call Try.prog 52 #[.pointer (some ⟨sb, 0, none⟩), .int .i64 n] w fun v w' => OwnB w0 w' v (takeP s n).1 ∧ RdrB w0 w' sb L (takeP s n).2 ∧ Mod (some sb) w w' := by
  apply vc52
  unfold V52
  obtain ⟨bv, P, hk, hr, hP, hs⟩ := id h
  have hsl : s.1.length = L.length - P := by rw [hs]; simp
  have f := fun W => run_fieldR sb W
  refine q52_1 (Ext w) (Ext.drawn _) fun _ => ?_
  rw [nilP_some]
  have l0 : ∀ W, Ext w W → (Instr.loadAt 34 (.pointer (some ⟨sb, 0, none⟩))).run Try.prog W = .ok bv W := fun W hW => run_load1 agg_bytes ((hk.ext hW).cell rfl)
  have l1 : ∀ W, Ext w W → (Instr.loadAt 3 (.pointer (some ⟨sb, 1, none⟩))).run Try.prog W = .ok (.int .i64 ((P : Nat) : Int)) W := fun W hW => run_load1 agg_i64 ((hk.ext hW).cell rfl)
  have l2 : ∀ W, Ext w W → (Instr.loadAt 4 (.pointer (some ⟨sb, 2, none⟩))).run Try.prog W = .ok (.bool s.2) W := fun W hW => run_load1 agg_bool ((hk.ext hW).cell rfl)
  refine qx (fun W => (f W).2.2) (qc l2 ?_)
  refine or_join false (fun _ j hj => qx run_lt (by rw [show decide ((n : Int) < 0) = false by simp]; exact hj)) ?_
  rw [Bool.or_false]
  refine or_join (decide (s.1.length < n)) (fun _ j hj => ?_) ?_
  · rw [nilP_some]
    refine qx (fun W => (f W).1) (qc l0 (q_len hr u_bytes ?_))
    rw [nilP_some, bytesV_length]
    refine qx (fun W => (f W).2.1) (qc l1 (qx (fun W => run_sub (by omega) (by omega) W) (qx run_gt ?_)))
    rw [show decide (((L.length : Nat) : Int) - ((P : Nat) : Int) < (n : Int)) = decide (s.1.length < n) by rw [decide_eq_decide]; omega]
    exact hj
  intro W hW _
  have hhW := h.ext hW
  refine condP_of (fun hb => ?_) fun hok => ?_
  · rw [nilP_some]
    have e : takeP s n = ([], (s.1, true)) := by
      unfold takeP
      rw [if_pos (by simpa using hb)]
    refine hhW.bad fun W2 h1 h2 => ?_
    rw [e]
    exact ⟨OwnB.nil _ _, h1, (Mod.ofExt hW).trans h2⟩
  · simp only [Bool.or_eq_false_iff, decide_eq_false_iff_not] at hok
    have e : takeP s n = (s.1.take n, (s.1.drop n, s.2)) := by
      unfold takeP
      rw [if_neg (by simp [hok.1]; omega)]
    rw [e]
    have hEW := hE.trans hW
    obtain ⟨va, vc, hv, hvl, _⟩ := id hr
    have hlen : (bytesV L).length = L.length := by simp
    have hkW := hk.ext hW
    refine q52_4 (Ext W) (Ext.drawn _) fun _ => ?_
    have m0 : ∀ W', Ext W W' → (Instr.loadAt 34 (.pointer (some ⟨sb, 0, none⟩))).run Try.prog W' = .ok bv W' := fun W' hW' => run_load1 agg_bytes ((hkW.ext hW').cell rfl)
    have m1 : ∀ W', Ext W W' → (Instr.loadAt 3 (.pointer (some ⟨sb, 1, none⟩))).run Try.prog W' = .ok (.int .i64 ((P : Nat) : Int)) W' := fun W' hW' => run_load1 agg_i64 ((hkW.ext hW').cell rfl)
    rw [nilP_some]
    refine qx (fun W => (f W).1) (qc m0 ?_)
    rw [nilP_some]
    refine qx (fun W => (f W).2.1) (qc m1 ?_)
    rw [nilP_some]
    refine qx (fun W => (f W).2.1) (qc m1 (qx (fun W => run_add (by omega) (by omega) W) ?_))
    rw [show ((P : Nat) : Int) + ((n : Nat) : Int) = ((P + n : Nat) : Int) by omega]
    rw [hv]
    refine qx (run_cut u_bytes sz_u8 (l := P) (h := P + n) (by omega) (by omega)) fun W2 hW2 _ => ?_
    have hx : Row w0 (.slice (if vc = P then va else va.map (·.add P)) (P + n - P) (vc - P)) (bytesV (s.1.take n)) := by
      rw [hv] at hr
      have := row_cut (l := P) (h := P + n) hr (by omega) (by omega)
      have e2 : ((bytesV L).take (P + n)).drop P = bytesV (s.1.take n) := by
        rw [hs]
        unfold bytesV
        rw [← List.map_take, ← List.map_drop, List.drop_take]
        congr 2
        omega
      rw [e2] at this
      exact this
    have hkW2 := hkW.ext hW2
    rw [nilP_some]
    refine does_of (f W2).2.1 (does_of (m1 W2 hW2) (does_add (by omega) (by omega) ?_))
    rw [show ((P : Nat) : Int) + ((n : Nat) : Int) = ((P + n : Nat) : Int) by omega, nilP_some]
    refine does_of (f W2).2.1 (does_of (run_store1 sz_int' rfl rfl (hkW2.cell (i := 1) rfl) hkW2.frozen) ?_)
    have hm := Mod.setCell W2 sb 1 (.int .i64 ((P + n : Nat) : Int))
    have hk3 := hkW2.set (i := 1) (.int .i64 ((P + n : Nat) : Int))
    generalize W2.setCell ⟨sb, 1, none⟩ (.int .i64 ((P + n : Nat) : Int)) = W3 at hm hk3
    have hE3 : Ext w0 W3 := Mod.ext (hEW.trans hW2) hm fun k hk => by cases hk; exact hsb
    refine (copyBytes_spec (hx.ext hE3) (by simp; omega)).mono fun u W4 ⟨g1, g2⟩ => ⟨g1.back hE3, ⟨bv, P + n, hk3.ext g2, hr, by omega, by rw [hs]; simp [List.drop_drop]⟩, (((Mod.ofExt hW).trans (Mod.ofExt hW2)).trans hm).trans (Mod.ofExt g2)⟩
theorem rbyte_spec {w0 w : World} {sb : Nat} {L : List UInt8} {s : Src} (h : RdrB w0 w sb L s) (hE : Ext w0 w) (hsb : w0.heap.size ≤ sb) (hL : L.length ≤ 1048577) :
    Call Try.prog 54 #[.pointer (some ⟨sb, 0, none⟩)] w fun v w' => v = .int .i64 ((oneP s).1 : Nat) ∧ RdrB w0 w' sb L (oneP s).2 ∧ Mod (some sb) w w' := by
  apply vc54
  unfold V54
  refine (rtake_spec (n := 1) h hE hsb hL).mono fun v W ⟨h1, h2, h3⟩ => ?_
  refine h1.row.len u_bytes (does_of (run_eqI W) (condP_of (fun h0 => ?_) fun h0 => ?_))
  · have hnil : (takeP s 1).1 = [] := by simp at h0; exact h0
    refine ⟨?_, h2, h3⟩
    unfold oneP
    rw [hnil]
    rfl
  · cases hl : (takeP s 1).1 with
    | nil => simp [hl] at h0
    | cons c l =>
      rw [hl] at h1
      refine does_byteAt (i := 0) h1.row (Ext.refl _) rfl (does_of (run_conv53 c W) ⟨?_, h2, h3⟩)
      unfold oneP
      rw [hl]
      rfl
theorem rnum_spec {w0 w : World} {sb : Nat} {L : List UInt8} {s : Src} (h : RdrB w0 w sb L s) (hE : Ext w0 w) (hL : L.length ≤ 1048577) :
    Call Try.prog 53 #[.pointer (some ⟨sb, 0, none⟩)] w fun v w' => v = .int .i64 ((rnumP s).1 : Nat) ∧ RdrB w0 w' sb L (rnumP s).2 ∧ Mod (some sb) w w' := by
  apply vc53
  unfold V53
  obtain ⟨bv, P, hk, hr, hP, hs⟩ := id h
  have f := fun W => run_fieldR sb W
  refine q53_1 (Ext w) (Ext.drawn _) fun _ => ?_
  have l0 : ∀ W, Ext w W → (Instr.loadAt 34 (.pointer (some ⟨sb, 0, none⟩))).run Try.prog W = .ok bv W := fun W hW => run_load1 agg_bytes ((hk.ext hW).cell rfl)
  have l1 : ∀ W, Ext w W → (Instr.loadAt 3 (.pointer (some ⟨sb, 1, none⟩))).run Try.prog W = .ok (.int .i64 ((P : Nat) : Int)) W := fun W hW => run_load1 agg_i64 ((hk.ext hW).cell rfl)
  rw [nilP_some]
  refine qx (fun W => (f W).1) (qc l0 ?_)
  rw [nilP_some]
  refine qx (fun W => (f W).2.1) (qc l1 (qcall_of (getV L P) (fun W hW => (rget_spec (hr.ext (hE.trans hW)) (by omega) hP).mono fun v W' ⟨h1, h2⟩ => ⟨h1, Ext.trans hW h2⟩) ?_))
  have hg : getV L P = .tuple (if (getR s.1).2.2 = 0 then #[.int .i64 ((getR s.1).1 : Nat), .int .i64 ((P + (getR s.1).2.1 : Nat) : Int), .int .i64 0] else #[.int .i64 0, .int .i64 0, .int .i64 (getR s.1).2.2]) := by
    unfold getV
    rw [← hs]
  rw [hg]
  have hle := (getR_le (b := s.1)).1
  have hsl : s.1.length = L.length - P := by rw [hs]; simp
  by_cases h0 : (getR s.1).2.2 = 0
  · rw [if_pos h0]
    refine ⟨_, fun W _ => by simp only [Instr.extract]; rfl, ?_⟩
    refine ⟨_, fun W _ => by simp only [Instr.extract]; rfl, ?_⟩
    refine ⟨_, fun W _ => by simp only [Instr.extract]; rfl, ?_⟩
    intro W hW _
    rw [nilP_some]
    have hhW := h.ext hW
    refine hhW.isBad ?_
    refine or_join (!decide ((0 : Int) = 0)) (fun _ j hj => does_of (run_neI W) hj) ?_
    rw [show (!decide ((0 : Int) = 0)) = false from rfl, Bool.or_false]
    refine condP_of (fun hb => ?_) fun hok => ?_
    · rw [nilP_some]
      have e : rnumP s = (0, (s.1, true)) := by unfold rnumP; rw [if_pos (.inl hb)]
      refine hhW.bad fun W2 g1 g2 => ?_
      rw [e]
      exact ⟨rfl, g1, (Mod.ofExt hW).trans g2⟩
    · rw [nilP_some]
      have e : rnumP s = ((getR s.1).1, (s.1.drop (getR s.1).2.1, s.2)) := by unfold rnumP; rw [if_neg (by simp [hok, h0])]
      have hkW := hk.ext hW
      refine does_of (f W).2.1 (does_of (run_store1 sz_int' rfl rfl (hkW.cell (i := 1) rfl) hkW.frozen) ?_)
      rw [e]
      exact ⟨rfl, ⟨bv, P + (getR s.1).2.1, hkW.set _, hr, by omega, by rw [hs]; simp [List.drop_drop]⟩, (Mod.ofExt hW).trans (Mod.setCell W sb 1 _)⟩
  · rw [if_neg h0]
    refine ⟨_, fun W _ => by simp only [Instr.extract]; rfl, ?_⟩
    refine ⟨_, fun W _ => by simp only [Instr.extract]; rfl, ?_⟩
    refine ⟨_, fun W _ => by simp only [Instr.extract]; rfl, ?_⟩
    intro W hW _
    rw [nilP_some]
    have hhW := h.ext hW
    refine hhW.isBad ?_
    refine or_join (!decide ((getR s.1).2.2 = 0)) (fun _ j hj => does_of (run_neI W) hj) ?_
    rw [show (!decide ((getR s.1).2.2 = 0)) = true by simp [h0], Bool.or_true, condP_true, nilP_some]
    have e : rnumP s = (0, (s.1, true)) := by unfold rnumP; rw [if_pos (.inr h0)]
    refine hhW.bad fun W2 g1 g2 => ?_
    rw [e]
    exact ⟨rfl, g1, (Mod.ofExt hW).trans g2⟩
end Go.Proofs.Ytcncgkkilgmphaa
