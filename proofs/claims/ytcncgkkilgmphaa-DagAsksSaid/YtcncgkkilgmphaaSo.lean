/-
  Contracts of the stable sort of texts by a function value: swaps, rotations, merges.
-/
import Derived.Test.YtcncgkkilgmphaaDi
import Derived.Test.YtcncgkkilgmphaaSp
import Derived.Test.YtcncgkkilgmphaaT4
set_option linter.unusedVariables false
set_option linter.unusedSimpArgs false
namespace Go.Proofs.Ytcncgkkilgmphaa
open Go Go.RowKit

/-! ### 1. cells of an own row of texts -/
section
variable {w : World} {base g : Nat} {s : Value} {xs : List ByteArray} {i : Nat} {x : ByteArray} {kk : IntKind}
theorem lt_of_get (h : xs[i]? = some x) : i < xs.length := (List.getElem?_eq_some_iff.1 h).1
theorem sw_index {k : Value → World → Prop} (ho : Own w base 9 s (strsV xs)) (hg : s.ownBlock = some g) (hi : i < xs.length) (hk : k (.pointer (some ⟨g, i, none⟩)) w) : Does Try.prog (Instr.indexAt 23 s (.int kk i)) w k :=
  ho.indexAt u_strs sz_str (by simpa using hi) fun g' hg' _ _ => by rw [hg] at hg'; cases hg'; exact hk
theorem own_cell (ho : Own w base 9 s (strsV xs)) (hg : s.ownBlock = some g) (hx : xs[i]? = some x) : w.cell? ⟨g, i, none⟩ = some (.string x) := by
  rcases ho.2 with ⟨rfl, h0⟩ | ⟨g', cap, cur, rfl, hb, hh, hn, hm, hsz, ht⟩
  · simp [Value.ownBlock] at hg
  · have : g' = g := by simpa [Value.ownBlock] using hg
    subst this
    have hcell := World.ownsRow.cells ho (g := g') rfl i (.string x) (by simp [strsV, hx])
    have hadd : (⟨g', 0, none⟩ : Addr).add i = ⟨g', i, none⟩ := by unfold Addr.add; split <;> simp_all
    rw [hadd] at hcell
    exact hcell
theorem sw_load {k : Value → World → Prop} (ho : Own w base 9 s (strsV xs)) (hg : s.ownBlock = some g) (hx : xs[i]? = some x) (hk : k (.string x) w) : Does Try.prog (Instr.loadAt 9 (.pointer (some ⟨g, i, none⟩))) w k :=
  does_load1 agg_str (own_cell ho hg hx) hk
theorem sw_store {k : Unit → World → Prop} {y : ByteArray} (ho : Own w base 9 s (strsV xs)) (hg : s.ownBlock = some g) (hx : xs[i]? = some x) (hk : ∀ W, Own W base 9 s (strsV (xs.set i y)) → Mod (some g) w W → k () W) :
    Does Try.prog (Instr.storeAt 9 (.pointer (some ⟨g, i, none⟩)) (.string y)) w k := by
  refine does_of (run_store1 sz_str rfl rfl (own_cell ho hg hx) (ho.notFrozen hg)) (hk _ ?_ (Mod.setCell _ _ _ _))
  have := ho.setCell (x := .string y) hg (i := i) (by simpa using lt_of_get hx)
  simpa [strsV, List.map_set] using this
theorem own_block (ho : Own w base 9 s (strsV xs)) (hx : xs[i]? = some x) : ∃ g, s.ownBlock = some g := by
  rcases ho.2 with ⟨_, h0⟩ | ⟨g, cap, cur, rfl, _⟩
  · have := lt_of_get hx; simp at h0; simp [h0] at this
  · exact ⟨g, rfl⟩
end
/-- What a pair of stores does: the classes of worlds on the way. -/
def SwC (w : World) (base g : Nat) (s : Value) (xs : List ByteArray) (i j : Nat) (x y : ByteArray) : Nat → World → Prop
  | 0, W => Own W base 9 s (strsV xs) ∧ Mod (some g) w W
  | 1, W => Own W base 9 s (strsV (xs.set i y)) ∧ Mod (some g) w W
  | _, W => Own W base 9 s (strsV ((xs.set i y).set j x)) ∧ Mod (some g) w W
theorem SwC.own {w W : World} {base g : Nat} {s : Value} {xs : List ByteArray} {i j k : Nat} {x y : ByteArray} (h : SwC w base g s xs i j x y k W) : ∃ ys, Own W base 9 s (strsV ys) ∧ ys.length = xs.length ∧ Mod (some g) w W := by
  unfold SwC at h
  split at h
  · exact ⟨_, h.1, rfl, h.2⟩
  · exact ⟨_, h.1, by simp, h.2⟩
  · exact ⟨_, h.1, by simp, h.2⟩
section
variable {w : World} {base : Nat} {s : Value} {xs : List ByteArray} {x y : ByteArray} {J : World → Prop}
theorem sub1 {j : Nat} (h : 1 ≤ j) (hj : (j : Int) ≤ 9223372036854775807) (w : World) : (binOp .sub 3 (.int .i64 (j : Int)) (.int .i64 1)).run Try.prog w = .ok (.int .i64 ((j - 1 : Nat) : Int)) w := by
  rw [run_sub (by omega) (by omega), show ((j : Int) - 1) = ((j - 1 : Nat) : Int) by omega]
theorem add1 {j : Nat} (hj : (j : Int) < 9223372036854775807) (w : World) : (binOp .add 3 (.int .i64 (j : Int)) (.int .i64 1)).run Try.prog w = .ok (.int .i64 ((j + 1 : Nat) : Int)) w := by
  rw [run_add (by omega) (by omega), show ((j : Int) + 1) = ((j + 1 : Nat) : Int) by omega]
theorem addN {i j : Nat} (hj : (i : Int) + j ≤ 9223372036854775807) (w : World) : (binOp .add 3 (.int .i64 (i : Int)) (.int .i64 (j : Int))).run Try.prog w = .ok (.int .i64 ((i + j : Nat) : Int)) w := by
  rw [run_add (by omega) (by omega), show ((i : Int) + j) = ((i + j : Nat) : Int) by omega]
theorem subN {i j : Nat} (h : j ≤ i) (hj : (i : Int) ≤ 9223372036854775807) (w : World) : (binOp .sub 3 (.int .i64 (i : Int)) (.int .i64 (j : Int))).run Try.prog w = .ok (.int .i64 ((i - j : Nat) : Int)) w := by
  rw [run_sub (by omega) (by omega), show ((i : Int) - j) = ((i - j : Nat) : Int) by omega]
theorem sw103 {j : Nat} {J : VF 0} (ho : Own w base 9 s (strsV xs)) (h1 : 1 ≤ j) (hx : xs[j]? = some x) (hy : xs[j - 1]? = some y)
    (hJ : ∀ W, Own W base 9 s (strsV ((xs.set j y).set (j - 1) x)) → Mod s.ownBlock w W → J W) : DrawP Try.prog 53 (opsOf Try.f103 6) [0, 9] [s, .int .i64 j] [] J w := by
  obtain ⟨g, hg⟩ := own_block ho hx
  have hjl := lt_of_get hx
  have hle := ho.row.len_le
  simp at hle
  have hp := fun w => sub1 (w := w) h1 (by omega)
  refine p103_6 Ext (Mod (some g)) (SwC w base g s xs j (j - 1) x y) (fun v _ => v = .int .i64 ((j - 1 : Nat) : Int)) (fun v _ => v = .int .i64 ((j - 1 : Nat) : Int)) (fun v _ => v = .pointer (some ⟨g, j - 1, none⟩))
    (fun v _ => v = .string y) (fun v _ => v = .pointer (some ⟨g, j, none⟩)) (fun v _ => v = .string x) (fun v _ => v = .pointer (some ⟨g, j, none⟩)) (fun v _ => v = .pointer (some ⟨g, j - 1, none⟩))
    Ext.refl (fun A B h => Mod.ofExt h) (Mod.refl _) (fun A B D => Mod.trans) (FSt.pure _) (FSt.pure _) (FSt.pure _) (FSt.pure _) (FSt.pure _) (FSt.pure _) (FSt.pure _) (FSt.pure _) ⟨ho.ext (Ext.drawn w), Mod.ofExt (Ext.drawn w)⟩ ?_ ?_ ?_ ?_ ?_ ?_ ?_ ?_ ?_ ?_ ?_
  · intro k _ _ W _ hC
    exact does_of (hp W) ⟨Ext.refl _, hC, rfl⟩
  · intro W _ hC
    exact does_of (hp W) ⟨Ext.refl _, hC, rfl⟩
  · rintro t W _ hC rfl
    exact sw_index hC.1 hg (by omega) ⟨Ext.refl _, hC, rfl⟩
  · rintro t W _ hC rfl
    exact sw_load hC.1 hg hy ⟨Ext.refl _, hC, rfl⟩
  · intro k _ _ W _ hC
    obtain ⟨ys, h2, h3, h4⟩ := hC.own
    exact sw_index h2 hg (by omega) ⟨Ext.refl _, hC, rfl⟩
  · rintro t W _ hC rfl
    exact sw_load hC.1 hg hx ⟨Ext.refl _, hC, rfl⟩
  · intro W _ hC
    exact sw_index hC.1 hg (by omega) ⟨Ext.refl _, hC, rfl⟩
  · rintro t u W _ hC rfl rfl
    exact sw_store hC.1 hg hx fun W' h2 h3 => ⟨h3, ⟨h2, hC.2.trans h3⟩, trivial, fun v h => h, fun v h => h, fun v h => h, fun v h => h, fun v h => h, fun v h => h, fun v h => h, trivial⟩
  · rintro t W _ hC rfl
    exact sw_index hC.1 hg (by simp; omega) ⟨Ext.refl _, hC, rfl⟩
  · rintro t u W _ hC rfl rfl
    refine sw_store (x := y) hC.1 hg ?_ fun W' h2 h3 => ⟨h3, ⟨h2, hC.2.trans h3⟩, trivial, fun v h => h, fun v h => h, fun v h => h, fun v h => h, fun v h => h, fun v h => h, fun v h => h, fun v h => h, trivial⟩
    rw [List.getElem?_set_ne (by omega)]
    exact hy
  · intro W _ hC
    exact hJ W hC.1 (by rw [hg]; exact hC.2)
theorem sw104b {j : Nat} {J : VF 0} (ho : Own w base 9 s (strsV xs)) (h1 : 1 ≤ j) (hx : xs[j]? = some x) (hy : xs[j - 1]? = some y)
    (hJ : ∀ W, Own W base 9 s (strsV ((xs.set j y).set (j - 1) x)) → Mod s.ownBlock w W → J W) : DrawP Try.prog 220 (opsOf Try.f104 23) [0, 17] [s, .int .i64 j] [] J w := by
  obtain ⟨g, hg⟩ := own_block ho hx
  have hjl := lt_of_get hx
  have hle := ho.row.len_le
  simp at hle
  have hp := fun w => sub1 (w := w) h1 (by omega)
  refine p104_23 Ext (Mod (some g)) (SwC w base g s xs j (j - 1) x y) (fun v _ => v = .int .i64 ((j - 1 : Nat) : Int)) (fun v _ => v = .int .i64 ((j - 1 : Nat) : Int)) (fun v _ => v = .pointer (some ⟨g, j - 1, none⟩))
    (fun v _ => v = .string y) (fun v _ => v = .pointer (some ⟨g, j, none⟩)) (fun v _ => v = .string x) (fun v _ => v = .pointer (some ⟨g, j, none⟩)) (fun v _ => v = .pointer (some ⟨g, j - 1, none⟩))
    Ext.refl (fun A B h => Mod.ofExt h) (Mod.refl _) (fun A B D => Mod.trans) (FSt.pure _) (FSt.pure _) (FSt.pure _) (FSt.pure _) (FSt.pure _) (FSt.pure _) (FSt.pure _) (FSt.pure _) ⟨ho.ext (Ext.drawn w), Mod.ofExt (Ext.drawn w)⟩ ?_ ?_ ?_ ?_ ?_ ?_ ?_ ?_ ?_ ?_ ?_
  · intro k _ _ W _ hC
    exact does_of (hp W) ⟨Ext.refl _, hC, rfl⟩
  · intro W _ hC
    exact does_of (hp W) ⟨Ext.refl _, hC, rfl⟩
  · rintro t W _ hC rfl
    exact sw_index hC.1 hg (by omega) ⟨Ext.refl _, hC, rfl⟩
  · rintro t W _ hC rfl
    exact sw_load hC.1 hg hy ⟨Ext.refl _, hC, rfl⟩
  · intro k _ _ W _ hC
    obtain ⟨ys, h2, h3, h4⟩ := hC.own
    exact sw_index h2 hg (by omega) ⟨Ext.refl _, hC, rfl⟩
  · rintro t W _ hC rfl
    exact sw_load hC.1 hg hx ⟨Ext.refl _, hC, rfl⟩
  · intro W _ hC
    exact sw_index hC.1 hg (by omega) ⟨Ext.refl _, hC, rfl⟩
  · rintro t u W _ hC rfl rfl
    exact sw_store hC.1 hg hx fun W' h2 h3 => ⟨h3, ⟨h2, hC.2.trans h3⟩, trivial, fun v h => h, fun v h => h, fun v h => h, fun v h => h, fun v h => h, fun v h => h, fun v h => h, trivial⟩
  · rintro t W _ hC rfl
    exact sw_index hC.1 hg (by simp; omega) ⟨Ext.refl _, hC, rfl⟩
  · rintro t u W _ hC rfl rfl
    refine sw_store (x := y) hC.1 hg ?_ fun W' h2 h3 => ⟨h3, ⟨h2, hC.2.trans h3⟩, trivial, fun v h => h, fun v h => h, fun v h => h, fun v h => h, fun v h => h, fun v h => h, fun v h => h, fun v h => h, trivial⟩
    rw [List.getElem?_set_ne (by omega)]
    exact hy
  · intro W _ hC
    exact hJ W hC.1 (by rw [hg]; exact hC.2)
theorem sw104a {j : Nat} {J : VF 0} (ho : Own w base 9 s (strsV xs)) (hx : xs[j]? = some x) (hy : xs[j + 1]? = some y)
    (hJ : ∀ W, Own W base 9 s (strsV ((xs.set j y).set (j + 1) x)) → Mod s.ownBlock w W → J W) : DrawP Try.prog 220 (opsOf Try.f104 11) [0, 13] [s, .int .i64 j] [] J w := by
  obtain ⟨g, hg⟩ := own_block ho hx
  have hjl := lt_of_get hx
  have hle := ho.row.len_le
  simp at hle
  have hjl2 := lt_of_get hy
  have hp := fun w => add1 (j := j) (w := w) (by omega)
  refine p104_11 Ext (Mod (some g)) (SwC w base g s xs j (j + 1) x y) (fun v _ => v = .int .i64 ((j + 1 : Nat) : Int)) (fun v _ => v = .int .i64 ((j + 1 : Nat) : Int)) (fun v _ => v = .pointer (some ⟨g, j + 1, none⟩))
    (fun v _ => v = .string y) (fun v _ => v = .pointer (some ⟨g, j, none⟩)) (fun v _ => v = .string x) (fun v _ => v = .pointer (some ⟨g, j, none⟩)) (fun v _ => v = .pointer (some ⟨g, j + 1, none⟩))
    Ext.refl (fun A B h => Mod.ofExt h) (Mod.refl _) (fun A B D => Mod.trans) (FSt.pure _) (FSt.pure _) (FSt.pure _) (FSt.pure _) (FSt.pure _) (FSt.pure _) (FSt.pure _) (FSt.pure _) ⟨ho.ext (Ext.drawn w), Mod.ofExt (Ext.drawn w)⟩ ?_ ?_ ?_ ?_ ?_ ?_ ?_ ?_ ?_ ?_ ?_
  · intro k _ _ W _ hC
    exact does_of (hp W) ⟨Ext.refl _, hC, rfl⟩
  · intro W _ hC
    exact does_of (hp W) ⟨Ext.refl _, hC, rfl⟩
  · rintro t W _ hC rfl
    exact sw_index hC.1 hg (by omega) ⟨Ext.refl _, hC, rfl⟩
  · rintro t W _ hC rfl
    exact sw_load hC.1 hg hy ⟨Ext.refl _, hC, rfl⟩
  · intro k _ _ W _ hC
    obtain ⟨ys, h2, h3, h4⟩ := hC.own
    exact sw_index h2 hg (by omega) ⟨Ext.refl _, hC, rfl⟩
  · rintro t W _ hC rfl
    exact sw_load hC.1 hg hx ⟨Ext.refl _, hC, rfl⟩
  · intro W _ hC
    exact sw_index hC.1 hg (by omega) ⟨Ext.refl _, hC, rfl⟩
  · rintro t u W _ hC rfl rfl
    exact sw_store hC.1 hg hx fun W' h2 h3 => ⟨h3, ⟨h2, hC.2.trans h3⟩, trivial, fun v h => h, fun v h => h, fun v h => h, fun v h => h, fun v h => h, fun v h => h, fun v h => h, trivial⟩
  · rintro t W _ hC rfl
    exact sw_index hC.1 hg (by simp; omega) ⟨Ext.refl _, hC, rfl⟩
  · rintro t u W _ hC rfl rfl
    refine sw_store (x := y) hC.1 hg ?_ fun W' h2 h3 => ⟨h3, ⟨h2, hC.2.trans h3⟩, trivial, fun v h => h, fun v h => h, fun v h => h, fun v h => h, fun v h => h, fun v h => h, fun v h => h, fun v h => h, trivial⟩
    rw [List.getElem?_set_ne (by omega)]
    exact hy
  · intro W _ hC
    exact hJ W hC.1 (by rw [hg]; exact hC.2)
theorem sw120 {i a b : Nat} {J : VF 0} (ho : Own w base 9 s (strsV xs)) (hne : a + i ≠ b + i) (hx : xs[a + i]? = some x) (hy : xs[b + i]? = some y)
    (hJ : ∀ W, Own W base 9 s (strsV ((xs.set (a + i) y).set (b + i) x)) → Mod s.ownBlock w W → J W) : DrawP Try.prog 38 (opsOf Try.f120 3) [0, 1, 2, 10] [s, .int .i64 a, .int .i64 b, .int .i64 i] [] J w := by
  obtain ⟨g, hg⟩ := own_block ho hx
  have hil := lt_of_get hx
  have hjl := lt_of_get hy
  have hle := ho.row.len_le
  simp at hle
  have hpa := fun w => addN (i := a) (j := i) (w := w) (by omega)
  have hpb := fun w => addN (i := b) (j := i) (w := w) (by omega)
  refine p120_3 Ext (Mod (some g)) (SwC w base g s xs (a + i) (b + i) x y) (fun v _ => v = .int .i64 ((a + i : Nat) : Int)) (fun v _ => v = .int .i64 ((b + i : Nat) : Int)) (fun v _ => v = .int .i64 ((b + i : Nat) : Int))
    (fun v _ => v = .pointer (some ⟨g, b + i, none⟩)) (fun v _ => v = .string y) (fun v _ => v = .int .i64 ((a + i : Nat) : Int)) (fun v _ => v = .pointer (some ⟨g, a + i, none⟩)) (fun v _ => v = .string x) (fun v _ => v = .pointer (some ⟨g, a + i, none⟩)) (fun v _ => v = .pointer (some ⟨g, b + i, none⟩))
    Ext.refl (fun A B h => Mod.ofExt h) (Mod.refl _) (fun A B D => Mod.trans) (FSt.pure _) (FSt.pure _) (FSt.pure _) (FSt.pure _) (FSt.pure _) (FSt.pure _) (FSt.pure _) (FSt.pure _) (FSt.pure _) (FSt.pure _) ⟨ho.ext (Ext.drawn w), Mod.ofExt (Ext.drawn w)⟩ ?_ ?_ ?_ ?_ ?_ ?_ ?_ ?_ ?_ ?_ ?_ ?_ ?_
  · intro W _ hC
    exact does_of (hpa W) ⟨Ext.refl _, hC, rfl⟩
  · intro k _ _ W _ hC
    exact does_of (hpb W) ⟨Ext.refl _, hC, rfl⟩
  · intro W _ hC
    exact does_of (hpb W) ⟨Ext.refl _, hC, rfl⟩
  · rintro t W _ hC rfl
    exact sw_index hC.1 hg (by omega) ⟨Ext.refl _, hC, rfl⟩
  · rintro t W _ hC rfl
    exact sw_load hC.1 hg hy ⟨Ext.refl _, hC, rfl⟩
  · intro k _ _ W _ hC
    exact does_of (hpa W) ⟨Ext.refl _, hC, rfl⟩
  · rintro t k _ _ W _ hC rfl
    obtain ⟨ys, h2, h3, h4⟩ := hC.own
    exact sw_index h2 hg (by omega) ⟨Ext.refl _, hC, rfl⟩
  · rintro t W _ hC rfl
    exact sw_load hC.1 hg hx ⟨Ext.refl _, hC, rfl⟩
  · rintro t W _ hC rfl
    exact sw_index hC.1 hg (by omega) ⟨Ext.refl _, hC, rfl⟩
  · rintro t u W _ hC rfl rfl
    exact sw_store hC.1 hg hx fun W' h2 h3 => ⟨h3, ⟨h2, hC.2.trans h3⟩, trivial, fun v h => h, fun v h => h, fun v h => h, fun v h => h, fun v h => h, fun v h => h, fun v h => h, fun v h => h, fun v h => h, trivial⟩
  · rintro t W _ hC rfl
    exact sw_index hC.1 hg (by simp; omega) ⟨Ext.refl _, hC, rfl⟩
  · rintro t u W _ hC rfl rfl
    refine sw_store (x := y) hC.1 hg ?_ fun W' h2 h3 => ⟨h3, ⟨h2, hC.2.trans h3⟩, trivial, fun v h => h, fun v h => h, fun v h => h, fun v h => h, fun v h => h, fun v h => h, fun v h => h, fun v h => h, fun v h => h, fun v h => h, trivial⟩
    rw [List.getElem?_set_ne hne]
    exact hy
  · intro W _ hC
    exact hJ W hC.1 (by rw [hg]; exact hC.2)
end
end Go.Proofs.Ytcncgkkilgmphaa
