/-
  The law DagAsks: its first drawn region.
-/
import Derived.Test.YtcncgkkilgmphaaLc
set_option linter.unusedVariables false
set_option linter.unusedSimpArgs false
namespace Go.Proofs.Ytcncgkkilgmphaa
open Go Go.RowKit

theorem row_block {w : World} {v : Value} {xs : List Value} {a : Addr} {m c : Nat} (h : Row w v xs) (hv : v = .slice (some a) m c) (hx : xs ≠ []) : a.block < w.heap.size := by
  obtain ⟨a', c', hv', _, hcell⟩ := h
  cases hxs : xs with
  | nil => exact absurd hxs hx
  | cons y l =>
    obtain ⟨ad, g1, g2⟩ := hcell 0 y (by rw [hxs]; rfl)
    rw [hv] at hv'
    simp only [Value.slice.injEq] at hv'
    rw [← hv'.1] at g1
    cases g1
    have := World.block_lt_of_cell? w _ g2
    rwa [add_block] at this
/-- both graphs, of the same commits, each in memory of its own -/
def PairG (w0 W : World) (gv xv : Value) (G : List Cm) : Prop :=
  Ext w0 W ∧ ∃ T U : Nat → Prop, PG W T gv G ∧ RG W U xv G ∧ (∀ k, T k → w0.heap.size ≤ k ∧ k < W.heap.size) ∧ (∀ k, U k → w0.heap.size ≤ k ∧ k < W.heap.size) ∧ ∀ k, T k → ¬ U k
theorem PairG.ext {w0 W W' : World} {gv xv : Value} {G : List Cm} (h : PairG w0 W gv xv G) (hE : Ext W W') : PairG w0 W' gv xv G := by
  obtain ⟨h0, T, U, h1, h2, h3, h4, h5⟩ := h
  have := hE.size
  exact ⟨h0.trans hE, T, U, h1.ext hE, h2.ext hE, fun k hk => by have := h3 k hk; omega, fun k hk => by have := h4 k hk; omega, h5⟩
def SR (w0 a b : World) : Prop := a.heap.size ≤ b.heap.size ∧ (Ext w0 a → Ext w0 b)
def PC (w0 w : World) (T U : Nat → Prop) (gv xv cv : Value) (G : List Cm) (n : Nd) (k : Nat) (W : World) : Prop :=
  (match k with
    | 0 => Ext w W
    | 1 => w.heap.size ≤ W.heap.size ∧ PG W (fun k => T k ∨ w.heap.size ≤ k) gv (addG G n.id n.ps n.st).2 ∧ RG W U xv G
    | _ => PairG w0 W gv xv (addG G n.id n.ps n.st).2) ∧ RowIn (fun k => ¬ T k ∧ ¬ U k ∧ k < w.heap.size) W cv (strsV n.ps)
theorem PC.row {w0 w : World} {T U : Nat → Prop} {gv xv cv : Value} {G : List Cm} {n : Nd} {k : Nat} {W : World} (h : PC w0 w T U gv xv cv G n k W) : Row W cv (strsV n.ps) := h.2.1
theorem PC.ext {w0 w : World} {T U : Nat → Prop} {gv xv cv : Value} {G : List Cm} {n : Nd} {k : Nat} {W W' : World} (h : PC w0 w T U gv xv cv G n k W) (hE : Ext W W') : PC w0 w T U gv xv cv G n k W' := by
  refine ⟨?_, h.2.ext hE⟩
  match k, h.1 with
  | 0, h => exact Ext.trans h hE
  | 1, ⟨h1, h2, h3⟩ => exact ⟨Nat.le_trans h1 hE.size, h2.ext hE, h3.ext hE⟩
  | n + 2, h => exact PairG.ext h hE
theorem region11 {w0 w : World} {T U : Nat → Prop} {gv xv lv cv : Value} {G : List Cm} {N : List Nd} {i : Nat} {n : Nd} {J : VF 1} (hw : Ext w0 w) (hP : PG w T gv G) (hR : RG w U xv G) (hT : ∀ k, T k → w0.heap.size ≤ k ∧ k < w.heap.size) (hU : ∀ k, U k → w0.heap.size ≤ k ∧ k < w.heap.size) (hd : ∀ k, T k → ¬ U k)
    (hcv : RowIn (fun k => ¬ T k ∧ ¬ U k ∧ k < w.heap.size) w cv (strsV n.ps)) (hl : NR w0 lv N) (hn : N[i]? = some n) (hlen : n.ps.length ≤ 8)
    (hJ : ∀ W, PairG w0 W gv xv (addG G n.id n.ps n.st).2 → Row W cv (strsV n.ps) → J (.bool false) W) : DrawP Try.prog 289 (opsOf Try.f4 11) [0, 7, 8, 9, 10] [lv, gv, xv, .int .i64 (i : Nat), cv] [107] J w := by
  obtain ⟨p, hp, c0, c1, c2, hrow, hst⟩ := hl.at hn
  have step1 : ∀ W, Ext w0 W → PC w0 w T U gv xv cv G n 0 W → Call Try.prog 22 #[gv, .string n.id, cv, .int .i64 n.st] W fun u W2 => u = .int .i64 (addG G n.id n.ps n.st).1 ∧ SR w0 W W2 ∧ PC w0 w T U gv xv cv G n 1 W2 := by
    intro W hE hC
    have hC0 : Ext w W := hC.1
    refine (dadd_spec (hP.ext hC0) (hcv.1.ext hC0) (by omega)).mono fun u W2 ⟨h1, h2, h3⟩ => ?_
    have hE2 : Ext w0 W2 := ModIn.ext hE h2 fun k hk hTk => by have := (hT k hTk).1; omega
    refine ⟨h1, ⟨h2.size, fun _ => hE2⟩, ?_⟩
    refine ⟨⟨Nat.le_trans hC0.size h2.size, h3.mono (U := fun k => (T k ∨ w.heap.size ≤ k)) fun k hk hh => hh.imp (fun h => h) fun h => Nat.le_trans hC0.size h, (hR.ext hC0).mod h2 fun k hk hTk => hd k hTk hk⟩, (hcv.ext hC0).mod h2 fun k hk => hk.1⟩
  have step2 : ∀ W, Ext w0 W → PC w0 w T U gv xv cv G n 1 W → Call Try.prog 23 #[xv, .string n.id, n.pv, .int .i64 n.st] W fun u W2 => u = .int .i64 (addG G n.id n.ps n.st).1 ∧ SR w0 W W2 ∧ PC w0 w T U gv xv cv G n 2 W2 := by
    intro W hE hC
    obtain ⟨⟨hsz, hP1, hR1⟩, hcr⟩ := hC
    have hri : RowIn (fun k => ¬ U k) W n.pv (strsV n.ps) := by
      refine ⟨hrow.ext hE, fun a m c hv hx hUk => ?_⟩
      have := row_block hrow hv hx
      have := (hU _ hUk).1
      omega
    refine (radd_spec hR1 hri (by omega)).mono fun u W2 ⟨h1, h2, h3⟩ => ?_
    have hE2 : Ext w0 W2 := ModIn.ext hE h2 fun k hk hUk => by have := (hU k hUk).1; omega
    have hsz2 := h2.size
    refine ⟨h1, ⟨h2.size, fun _ => hE2⟩, ?_⟩
    refine ⟨⟨hE2, fun k => (T k ∨ w.heap.size ≤ k) ∧ k < W.heap.size, fun k => U k ∨ W.heap.size ≤ k ∧ k < W2.heap.size, ?_, ?_, ?_, ?_, ?_⟩, ?_⟩
    · refine (hP1.mono (U := fun k => (T k ∨ w.heap.size ≤ k) ∧ k < W.heap.size) fun k hk hh => ⟨hh, hk⟩).mod h2 fun k hk hUk => ?_
      have := hU k hUk
      rcases hk.1 with h | h
      · exact hd k h hUk
      · omega
    · exact h3.mono fun k hk hh => hh.imp (fun h => h) fun h => ⟨h, hk⟩
    · rintro k ⟨h | h, h'⟩
      · have := hT k h; omega
      · have := hw.size; omega
    · rintro k (h | h)
      · have := hU k h; omega
      · have := hw.size; omega
    · rintro k ⟨h, h'⟩ (g | g)
      · have := hU k g
        rcases h with h | h
        · exact hd k h g
        · omega
      · omega
    · exact hcr.mod h2 fun k hk => hk.2.1
  refine p4_11 Ext (SR w0) (PC w0 w T U gv xv cv G n) (fun v _ => v = .pointer (some p)) (fun v _ => v = .pointer (some (p.add 0))) (fun v _ => v = .string n.id) (fun v _ => v = .pointer (some p)) (fun v _ => v = .pointer (some (p.add 2))) (fun v _ => v = .int .i64 n.st) (fun v _ => v = .int .i64 (addG G n.id n.ps n.st).1) (fun v _ => v = .pointer (some p)) (fun v _ => v = .pointer (some (p.add 0))) (fun v _ => v = .string n.id) (fun v _ => v = .pointer (some p)) (fun v _ => v = .pointer (some (p.add 1))) (fun v _ => v = n.pv) (fun v _ => v = .pointer (some p)) (fun v _ => v = .pointer (some (p.add 2))) (fun v _ => v = .int .i64 n.st) (fun v _ => v = .int .i64 (addG G n.id n.ps n.st).1) (fun v _ => v = .bool false) (fun v _ => v = cv) (fun v _ => v = lv) (fun v _ => v = .int .i64 (i : Nat)) (fun v _ => v = .pointer (some p)) (fun v _ => v = .pointer (some (p.add 1))) (fun v _ => v = n.pv) (fun v _ => v = .bool true) (fun v _ => v = .bool false) (fun v _ => v = .bool false)
    Ext.refl (fun A B h => ⟨h.size, fun hA => hA.trans h⟩) (fun A => ⟨Nat.le_refl _, fun h => h⟩) (fun A B D h k => ⟨Nat.le_trans h.1 k.1, fun hh => k.2 (h.2 hh)⟩) (FSt.pure _) (FSt.pure _) (FSt.pure _) (FSt.pure _) (FSt.pure _) (FSt.pure _) (FSt.pure _) (FSt.pure _) (FSt.pure _) (FSt.pure _) (FSt.pure _) (FSt.pure _) (FSt.pure _) (FSt.pure _) (FSt.pure _) (FSt.pure _) (FSt.pure _) (FSt.pure _) (FSt.pure _) (FSt.pure _) (FSt.pure _) (FSt.pure _) (FSt.pure _) (FSt.pure _) (FSt.pure _) (FSt.pure _) (FSt.pure _) ⟨Ext.drawn w, hcv.ext (Ext.drawn w)⟩ ?_ ?_ ?_ ?_ ?_ ?_ ?_ ?_ ?_ ?_ ?_ ?_ ?_ ?_ ?_ ?_ ?_ ?_ ?_ ?_ ?_ ?_ ?_ ?_ ?_ ?_ ?_ ?_
  · rintro  k _ _ W hS hC 
    have hE := hS.2 (hw.trans (Ext.drawn w))
    exact does_of (hp W) ⟨Ext.refl _, hC, rfl⟩
  · rintro t70 k _ _ W hS hC rfl
    have hE := hS.2 (hw.trans (Ext.drawn w))
    exact does_of (run_fieldN p W).1 ⟨Ext.refl _, hC, rfl⟩
  · rintro t71  W hS hC rfl
    have hE := hS.2 (hw.trans (Ext.drawn w))
    exact does_load1 agg_str (hE.cell c0) ⟨Ext.refl _, hC, rfl⟩
  · rintro  k _ _ W hS hC 
    have hE := hS.2 (hw.trans (Ext.drawn w))
    exact does_of (hp W) ⟨Ext.refl _, hC, rfl⟩
  · rintro t76 k _ _ W hS hC rfl
    have hE := hS.2 (hw.trans (Ext.drawn w))
    exact does_of (run_fieldN p W).2.2 ⟨Ext.refl _, hC, rfl⟩
  · rintro t77  W hS hC rfl
    have hE := hS.2 (hw.trans (Ext.drawn w))
    exact does_load1 agg_int (hE.cell c2) ⟨Ext.refl _, hC, rfl⟩
  · rintro t72 t78  W hS hC rfl rfl
    have hE := hS.2 (hw.trans (Ext.drawn w))
    exact (step1 W hE hC).mono fun u W2 ⟨h1, h2, h3⟩ => ⟨h2, h3, h1, fun v h => h, fun v h => h, fun v h => h, fun v h => h, fun v h => h, fun v h => h, fun v h => h, fun v h => h, fun v h => h, fun v h => h, fun v h => h, fun v h => h, fun v h => h, fun v h => h, fun v h => h, fun v h => h, fun v h => h, fun v h => h, fun v h => h, fun v h => h, fun v h => h, fun v h => h, fun v h => h, fun v h => h, trivial⟩
  · rintro  k _ _ W hS hC 
    have hE := hS.2 (hw.trans (Ext.drawn w))
    exact does_of (hp W) ⟨Ext.refl _, hC, rfl⟩
  · rintro t83 k _ _ W hS hC rfl
    have hE := hS.2 (hw.trans (Ext.drawn w))
    exact does_of (run_fieldN p W).1 ⟨Ext.refl _, hC, rfl⟩
  · rintro t84 k _ _ W hS hC rfl
    have hE := hS.2 (hw.trans (Ext.drawn w))
    exact does_load1 agg_str (hE.cell c0) ⟨Ext.refl _, hC, rfl⟩
  · rintro  k _ _ W hS hC 
    have hE := hS.2 (hw.trans (Ext.drawn w))
    exact does_of (hp W) ⟨Ext.refl _, hC, rfl⟩
  · rintro t88 k _ _ W hS hC rfl
    have hE := hS.2 (hw.trans (Ext.drawn w))
    exact does_of (run_fieldN p W).2.1 ⟨Ext.refl _, hC, rfl⟩
  · rintro t89 k _ _ W hS hC rfl
    have hE := hS.2 (hw.trans (Ext.drawn w))
    exact does_load1 agg_strs (hE.cell c1) ⟨Ext.refl _, hC, rfl⟩
  · rintro  k _ _ W hS hC 
    have hE := hS.2 (hw.trans (Ext.drawn w))
    exact does_of (hp W) ⟨Ext.refl _, hC, rfl⟩
  · rintro t93 k _ _ W hS hC rfl
    have hE := hS.2 (hw.trans (Ext.drawn w))
    exact does_of (run_fieldN p W).2.2 ⟨Ext.refl _, hC, rfl⟩
  · rintro t94 k _ _ W hS hC rfl
    have hE := hS.2 (hw.trans (Ext.drawn w))
    exact does_load1 agg_int (hE.cell c2) ⟨Ext.refl _, hC, rfl⟩
  · rintro t85 t90 t95  W hS hC rfl rfl rfl
    have hE := hS.2 (hw.trans (Ext.drawn w))
    exact (step2 W hE hC).mono fun u W2 ⟨h1, h2, h3⟩ => ⟨h2, h3, h1, fun v h => h, fun v h => h, fun v h => h, fun v h => h, fun v h => h, fun v h => h, fun v h => h, fun v h => h, fun v h => h, fun v h => h, fun v h => h, fun v h => h, fun v h => h, fun v h => h, fun v h => h, fun v h => h, fun v h => h, fun v h => h, fun v h => h, fun v h => h, fun v h => h, fun v h => h, fun v h => h, fun v h => h, fun v h => h, trivial⟩
  · rintro t79 t96  W hS hC rfl rfl
    have hE := hS.2 (hw.trans (Ext.drawn w))
    exact does_of (run_neI W) ⟨Ext.refl _, hC, by simp⟩
  · rintro t98 k _ _ W hS hC rfl
    have hE := hS.2 (hw.trans (Ext.drawn w))
    rw [guardP_ff]
    exact ⟨Ext.refl _, hC, rfl⟩
  · rintro t98 k _ _ W hS hC rfl
    have hE := hS.2 (hw.trans (Ext.drawn w))
    rw [guardP_ff]
    exact ⟨Ext.refl _, hC, rfl⟩
  · rintro t98 k _ _ W hS hC rfl
    have hE := hS.2 (hw.trans (Ext.drawn w))
    rw [guardP_ff]
    exact ⟨Ext.refl _, hC, rfl⟩
  · rintro t100 t101 t98 k _ _ W hS hC rfl rfl rfl
    have hE := hS.2 (hw.trans (Ext.drawn w))
    rw [guardP_ff]
    exact does_of (hp W) ⟨Ext.refl _, hC, rfl⟩
  · rintro t102 t98 k _ _ W hS hC rfl rfl
    have hE := hS.2 (hw.trans (Ext.drawn w))
    rw [guardP_ff]
    exact does_of (run_fieldN p W).2.1 ⟨Ext.refl _, hC, rfl⟩
  · rintro t103 t98 k _ _ W hS hC rfl rfl
    have hE := hS.2 (hw.trans (Ext.drawn w))
    rw [guardP_ff]
    exact does_load1 agg_strs (hE.cell c1) ⟨Ext.refl _, hC, rfl⟩
  · rintro t99 t104 t98 k _ _ W hS hC rfl rfl rfl
    have hE := hS.2 (hw.trans (Ext.drawn w))
    rw [guardP_ff]
    exact (texts_spec (hC.row) (hrow.ext hE)).mono fun u W2 ⟨h1, h2⟩ => ⟨h2, hC.ext h2, by rw [h1]; simp⟩
  · rintro t105 t98 k _ _ W hS hC rfl rfl
    have hE := hS.2 (hw.trans (Ext.drawn w))
    rw [guardP_ff]
    exact does_of (run_not W) ⟨Ext.refl _, hC, rfl⟩
  · rintro t98 t106 k _ _ W hS hC rfl rfl
    have hE := hS.2 (hw.trans (Ext.drawn w))
    rw [pickP_false]; exact ⟨Ext.refl _, hC, rfl⟩
  · rintro t W hS hC rfl
    exact hJ W hC.1 hC.2.1
end Go.Proofs.Ytcncgkkilgmphaa
