/-
  Contracts: the reader of package obj (take, one, number, hash).
-/
import Derived.Test.YtcncgkkilgmphaaOi
set_option linter.unusedVariables false
set_option linter.unusedSimpArgs false
namespace Go.Proofs.Ytcncgkkilgmphaa
open Go Go.RowKit

theorem Kp.ne {b b' : Nat} {cs cs' : Array Value} {t t' : TypeId} {W : World} (h : Kp b cs t W) (h' : Kp b' cs' t' W) (ht : t ≠ t') : b ≠ b' := fun e => by
  subst e
  unfold Kp at h h'
  rw [h] at h'
  simp only [Option.some.injEq, Obj.cells.injEq] at h'
  exact ht h'.2.1
theorem Own.neK {w : World} {base : Nat} {e : TypeId} {v : Value} {xs : List Value} {b : Nat} {cs : Array Value} {t : TypeId} (h : Own w base e v xs) (hk : Kp b cs t w) (ht : t ≠ e) : some b ≠ v.ownBlock := fun hb => by
  obtain ⟨cur, hc⟩ := h.block' b hb.symm
  exact ht (by unfold Kp at hk; rw [hk] at hc; simp only [Option.some.injEq, Obj.cells.injEq] at hc; exact hc.2.1)
theorem Own3.neK {w : World} {base : Nat} {e : TypeId} {v : Value} {l : List It} {b : Nat} {cs : Array Value} {t : TypeId} (h : Own3 w base e v l) (hk : Kp b cs t w) (ht : t ≠ e) : some b ≠ v.ownBlock := fun hb => by
  obtain ⟨cur, hc⟩ := h.block b hb.symm
  exact ht (by unfold Kp at hk; rw [hk] at hc; simp only [Option.some.injEq, Obj.cells.injEq] at hc; exact hc.2.1)
theorem Kp.set {b i : Nat} {cs : Array Value} {t : TypeId} {W : World} (h : Kp b cs t W) (x : Value) : Kp b (cs.setIfInBounds i x) t (W.setCell ⟨b, i, none⟩ x) := by
  unfold Kp at *
  simp only [World.setCell, Array.getElem?_modify, if_true, h, Option.map_some]
  rfl
theorem Kp.cell {b i : Nat} {cs : Array Value} {t : TypeId} {W : World} {x : Value} (h : Kp b cs t W) (hx : cs[i]? = some x) : W.cell? ⟨b, i, none⟩ = some x := by
  unfold Kp at h
  simp [World.cell?, h, hx]
theorem Kp.frozen {b i : Nat} {cs : Array Value} {t : TypeId} {W : World} (h : Kp b cs t W) : W.frozen? ⟨b, i, none⟩ = false := by
  unfold Kp at h
  simp [World.frozen?, h]
theorem Kp.lt {b : Nat} {cs : Array Value} {t : TypeId} {W : World} (h : Kp b cs t W) : b < W.heap.size := (Array.getElem?_eq_some_iff.1 h).1
/-- bytes that are read -/
def SrcB (w0 W : World) (sb : Nat) (s : Src) : Prop := ∃ bv, Kp sb #[bv, .bool s.2] 131 W ∧ Row w0 bv (bytesV s.1)
theorem SrcB.ext {w0 W W' : World} {sb : Nat} {s : Src} (h : SrcB w0 W sb s) (hE : Ext W W') : SrcB w0 W' sb s := let ⟨bv, h1, h2⟩ := h; ⟨bv, h1.ext hE, h2⟩
theorem SrcB.mod {w0 W W' : World} {sb : Nat} {s : Src} {row : Option Nat} (h : SrcB w0 W sb s) (hm : Mod row W W') (hne : some sb ≠ row) : SrcB w0 W' sb s := let ⟨bv, h1, h2⟩ := h; ⟨bv, h1.mod hm hne, h2⟩
theorem run_fieldS (b : Nat) (w : World) : (Instr.fieldAt 131 (.pointer (some ⟨b, 0, none⟩)) 0).run Try.prog w = .ok (.pointer (some ⟨b, 0, none⟩)) w ∧ (Instr.fieldAt 131 (.pointer (some ⟨b, 0, none⟩)) 1).run Try.prog w = .ok (.pointer (some ⟨b, 1, none⟩)) w := by
  refine ⟨?_, ?_⟩ <;> simp [go_sem, Instr.fieldAt, Addr.add]
theorem agg_bool (w : World) : (isAgg 4).run Try.prog w = .ok false w := by kernel_rfl
theorem sz_bool (w : World) : (sizeOf 4).run Try.prog w = .ok 1 w := by kernel_rfl
theorem sz_bytes (w : World) : (sizeOf 34).run Try.prog w = .ok 1 w := by kernel_rfl
theorem sz_strs' (w : World) : (sizeOf 23).run Try.prog w = .ok 1 w := by kernel_rfl
theorem sz_int' (w : World) : (sizeOf 3).run Try.prog w = .ok 1 w := by kernel_rfl
section
variable {w0 w : World} {sb : Nat} {s : Src} {k : Value → World → Prop}
theorem SrcB.load0 (h : SrcB w0 w sb s) (hk : ∀ bv, Kp sb #[bv, .bool s.2] 131 w → Row w0 bv (bytesV s.1) → k bv w) : Does Try.prog (Instr.fieldAt 131 (.pointer (some ⟨sb, 0, none⟩)) 0) w fun t w => Does Try.prog (Instr.loadAt 34 t) w k := by
  obtain ⟨bv, h1, h2⟩ := h
  exact does_of (run_fieldS sb w).1 (does_load1 agg_bytes (h1.cell rfl) (hk bv h1 h2))
theorem SrcB.load1 (h : SrcB w0 w sb s) (hk : k (.bool s.2) w) : Does Try.prog (Instr.fieldAt 131 (.pointer (some ⟨sb, 0, none⟩)) 1) w fun t w => Does Try.prog (Instr.loadAt 4 t) w k := by
  obtain ⟨bv, h1, h2⟩ := h
  exact does_of (run_fieldS sb w).2 (does_load1 agg_bool (h1.cell rfl) hk)
theorem SrcB.short {k : Unit → World → Prop} (h : SrcB w0 w sb s) (hk : ∀ W, SrcB w0 W sb (s.1, true) → Mod (some sb) w W → k () W) : Does Try.prog (Instr.fieldAt 131 (.pointer (some ⟨sb, 0, none⟩)) 1) w fun t w => Does Try.prog (Instr.storeAt 4 t (.bool true)) w k := by
  obtain ⟨bv, h1, h2⟩ := h
  refine does_of (run_fieldS sb w).2 (does_of (run_store1 sz_bool (by rfl) rfl (h1.cell (i := 1) rfl) h1.frozen) (hk _ ⟨bv, h1.set _, h2⟩ (Mod.setCell w sb 1 _)))
theorem SrcB.move {k : Unit → World → Prop} {bv' : Value} {l : List UInt8} (h : SrcB w0 w sb s) (hr : Row w0 bv' (bytesV l)) (hk : ∀ W, SrcB w0 W sb (l, s.2) → Mod (some sb) w W → k () W) : Does Try.prog (Instr.fieldAt 131 (.pointer (some ⟨sb, 0, none⟩)) 0) w fun t w => Does Try.prog (Instr.storeAt 34 t bv') w k := by
  obtain ⟨bv, h1, h2⟩ := h
  obtain ⟨a, c, hv⟩ := hr.slice
  refine does_of (run_fieldS sb w).1 (does_of (run_store1 sz_bytes (by rw [hv]; rfl) (by rw [hv]; rfl) (h1.cell (i := 0) rfl) h1.frozen) (hk _ ⟨bv', h1.set _, hr⟩ (Mod.setCell w sb 0 _)))
end
theorem take_spec {w0 w : World} {sb n : Nat} {s : Src} (h : SrcB w0 w sb s) : Call Try.prog 112 #[.pointer (some ⟨sb, 0, none⟩), .int .i64 n] w fun v w' => Row w0 v (bytesV (takeP s n).1) ∧ SrcB w0 w' sb (takeP s n).2 ∧ Mod (some sb) w w' := by
  apply vc112
  unfold V112
  rw [nilP_some]
  refine h.load1 ?_
  refine or_join (decide (s.1.length < n)) (fun _ j hj => ?_) ?_
  · rw [nilP_some]
    exact h.load0 fun bv _ hr => hr.len u_bytes (does_gt (by rw [show decide (((bytesV s.1).length : Int) < (n : Int)) = decide (s.1.length < n) by rw [decide_eq_decide, bytesV_length]; omega]; exact hj))
  refine condP_of (fun hb => ?_) fun hok => ?_
  · rw [nilP_some]
    have e : takeP s n = ([], (s.1, true)) := by
      unfold takeP
      rw [if_pos (by simpa using hb)]
    refine h.short fun W h1 h2 => ?_
    rw [e]
    exact ⟨Row.nil _ _ _, h1, h2⟩
  · simp only [Bool.or_eq_false_iff, decide_eq_false_iff_not] at hok
    have e : takeP s n = (s.1.take n, (s.1.drop n, s.2)) := by
      unfold takeP
      rw [if_neg (by simp [hok.1]; omega)]
    rw [e]
    rw [nilP_some]
    refine h.load0 fun bv hk hr => hr.upto u_bytes sz_u8 (h := n) (by simp; omega) fun x hx => ?_
    rw [nilP_some]
    refine h.load0 fun bv' hk' hr' => hr'.from u_bytes sz_u8 (l := n) (by simp; omega) fun y hy => ?_
    rw [nilP_some]
    have e1 : (bytesV s.1).take n = bytesV (s.1.take n) := by unfold bytesV; rw [List.map_take]
    have e2 : (bytesV s.1).drop n = bytesV (s.1.drop n) := by unfold bytesV; rw [List.map_drop]
    rw [e1] at hx
    rw [e2] at hy
    exact h.move hy fun W h1 h2 => ⟨hx, h1, h2⟩
theorem one_spec {w0 w : World} {sb : Nat} {s : Src} (h : SrcB w0 w sb s) (hE : Ext w0 w) (hsb : w0.heap.size ≤ sb) : Call Try.prog 111 #[.pointer (some ⟨sb, 0, none⟩)] w fun v w' => v = .int .i64 ((oneP s).1 : Nat) ∧ SrcB w0 w' sb (oneP s).2 ∧ Mod (some sb) w w' := by
  apply vc111
  unfold V111
  refine (take_spec (n := 1) h).mono fun v W ⟨h1, h2, h3⟩ => ?_
  have hE1 : Ext w0 W := Mod.ext hE h3 fun k hk => by cases hk; exact hsb
  refine (h1.ext hE1).len u_bytes (does_of (run_eqI W) (condP_of (fun h0 => ?_) fun h0 => ?_))
  · have hnil : (takeP s 1).1 = [] := by simp at h0; exact h0
    refine ⟨?_, h2, h3⟩
    unfold oneP
    rw [hnil]
    rfl
  · cases hl : (takeP s 1).1 with
    | nil => simp [hl] at h0
    | cons c l =>
      rw [hl] at h1
      refine does_byteAt (i := 0) h1 hE1 rfl (does_of (run_conv53 c W) ⟨?_, h2, h3⟩)
      unfold oneP
      rw [hl]
      rfl
theorem hashS_spec {w0 w : World} {sb : Nat} {s : Src} (h : SrcB w0 w sb s) (hE : Ext w0 w) (hsb : w0.heap.size ≤ sb) : Call Try.prog 113 #[.pointer (some ⟨sb, 0, none⟩)] w fun v w' => v = .string (hashP s).1 ∧ SrcB w0 w' sb (hashP s).2 ∧ Mod (some sb) w w' := by
  apply vc113
  unfold V113
  refine (take_spec (n := 32) h).mono fun v W ⟨h1, h2, h3⟩ => ?_
  have hE1 : Ext w0 W := Mod.ext hE h3 fun k hk => by cases hk; exact hsb
  have hl : (takeP s 32).1.length ≤ 32 := by unfold takeP; split <;> simp; omega
  refine (hex_spec (h1.ext hE1) (by omega)).mono fun v W2 ⟨g1, g2⟩ => ⟨g1, h2.ext g2, h3.trans (Mod.ofExt g2)⟩
theorem numberS_spec {w0 w : World} {sb : Nat} {s : Src} (h : SrcB w0 w sb s) (hE : Ext w0 w) (hl : s.1.length ≤ 1099511627776) : Call Try.prog 110 #[.pointer (some ⟨sb, 0, none⟩)] w fun v w' => v = .int .i64 ((numP s).1 : Nat) ∧ SrcB w0 w' sb (numP s).2 ∧ Mod (some sb) w w' := by
  apply vc110
  unfold V110
  rw [nilP_some]
  refine h.load0 fun bv hk hr => ?_
  refine (get_spec (a := 0) (hr.ext hE) hl (Nat.zero_le _)).mono fun v W ⟨h1, h2⟩ => ?_
  subst h1
  have hW := h.ext h2
  unfold getV
  rw [List.drop_zero]
  by_cases h0 : (getR s.1).2.2 = 0
  · rw [if_pos h0]
    have en : numP s = ((getR s.1).1, (takeP s (getR s.1).2.1).2) := by unfold numP; rw [if_pos h0]
    refine ex3a (ex3b (ex3c (does_of (run_neI W) ?_)))
    rw [show (!decide ((0 : Int) = 0)) = false from rfl, condP_false]
    rw [Nat.zero_add]
    refine (take_spec hW).mono fun v W2 ⟨g1, g2, g3⟩ => ?_
    rw [en]
    exact ⟨rfl, g2, (Mod.ofExt h2).trans g3⟩
  · rw [if_neg h0]
    have en : numP s = (0, (s.1, true)) := by unfold numP; rw [if_neg h0]
    refine ex3a (ex3b (ex3c (does_of (run_neI W) ?_)))
    rw [show (!decide ((getR s.1).2.2 = 0)) = true by simp [h0], condP_true]
    rw [nilP_some]
    refine hW.short fun W2 g1 g2 => ?_
    rw [en]
    exact ⟨rfl, g1, (Mod.ofExt h2).trans g2⟩
end Go.Proofs.Ytcncgkkilgmphaa
