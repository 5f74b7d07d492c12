/-
  Objects of the package marref6 in memory: the operations.
-/
import Derived.Test.YtcncgkkilgmphaaOc
set_option linter.unusedVariables false
set_option linter.unusedSimpArgs false
namespace Go.Proofs.Ytcncgkkilgmphaa
open Go Go.RowKit

theorem run_box_r {w0 : World} {dv iv pv : Value} {o : Ob} (h : IsOb w0 dv iv pv o) (w : World) : (Instr.box 38 (ObV dv iv pv o)).run Try.prog w = .ok (.pointer (some ⟨w.heap.size, 0, none⟩)) (w.alloc (.cells (ObC dv iv pv o) 38)) := by
  obtain ⟨a1, n1, c1, a2, n2, c2, a3, n3, c3, rfl, rfl, rfl⟩ := h.forms
  simp [go_sem, Instr.box, ObV, ObC]
theorem run_field_r (b : Nat) (w : World) : (Instr.fieldAt 38 (.pointer (some ⟨b, 0, none⟩)) 0).run Try.prog w = .ok (.pointer (some ⟨b, 0, none⟩)) w ∧ (Instr.fieldAt 38 (.pointer (some ⟨b, 0, none⟩)) 1).run Try.prog w = .ok (.pointer (some ⟨b, 1, none⟩)) w ∧
    (Instr.fieldAt 38 (.pointer (some ⟨b, 0, none⟩)) 2).run Try.prog w = .ok (.pointer (some ⟨b, 2, none⟩)) w ∧ (Instr.fieldAt 38 (.pointer (some ⟨b, 0, none⟩)) 3).run Try.prog w = .ok (.pointer (some ⟨b, 3, none⟩)) w ∧
    (Instr.fieldAt 38 (.pointer (some ⟨b, 0, none⟩)) 4).run Try.prog w = .ok (.pointer (some ⟨b, 4, none⟩)) w ∧ (Instr.fieldAt 38 (.pointer (some ⟨b, 0, none⟩)) 5).run Try.prog w = .ok (.pointer (some ⟨b, 5, none⟩)) w ∧
    (Instr.fieldAt 38 (.pointer (some ⟨b, 0, none⟩)) 6).run Try.prog w = .ok (.pointer (some ⟨b, 6, none⟩)) w ∧ (Instr.fieldAt 38 (.pointer (some ⟨b, 0, none⟩)) 7).run Try.prog w = .ok (.pointer (some ⟨b, 7, none⟩)) w := by
  refine ⟨?_, ?_, ?_, ?_, ?_, ?_, ?_, ?_⟩ <;> simp [go_sem, Instr.fieldAt, Addr.add]
theorem run_load_r {w0 w : World} {b : Nat} {dv iv pv : Value} {o : Ob} (h : IsOb w0 dv iv pv o) (hb : OBlk w b 38 dv iv pv o) : (Instr.loadAt 38 (.pointer (some ⟨b, 0, none⟩))).run Try.prog w = .ok (ObV dv iv pv o) w := by
  obtain ⟨a1, n1, c1, a2, n2, c2, a3, n3, c3, rfl, rfl, rfl⟩ := h.forms
  obtain ⟨g0, g1, g2, g3, g4, g5, g6, g7, _⟩ := hb.cell
  simp [go_sem, Instr.loadAt, Instr.sureAddr, loadVar, g0, g1, g2, g3, g4, g5, g6, g7, ObV, ObC]

theorem sz_ob_r (w : World) : (sizeOf 38).run Try.prog w = .ok 8 w := by kernel_rfl
theorem run_alloc_r (w : World) : (Instr.alloc 38 true (.tuple #[])).run Try.prog w = .ok (.pointer (some ⟨w.heap.size, 0, none⟩)) (w.alloc (.cells (ObC (.slice none 0 0) (.slice none 0 0) (.slice none 0 0) ob0) 38)) := by
  simp [go_sem, Instr.alloc, ObC, ob0, noS]
theorem run_new_r (w : World) : (Instr.build 38 #[]).run Try.prog w = .ok (ObV (.slice none 0 0) (.slice none 0 0) (.slice none 0 0) ob0) w := by
  simp [go_sem, Instr.build, ObV, ObC, ob0, noS]

theorem run_store_r {w0 w : World} {b : Nat} {dv iv pv dv' iv' pv' : Value} {o o' : Ob} (h : IsOb w0 dv' iv' pv' o') (hb : OBlk w b 38 dv iv pv o) : ∃ W, (Instr.storeAt 38 (.pointer (some ⟨b, 0, none⟩)) (ObV dv' iv' pv' o')).run Try.prog w = .ok () W ∧ OBlk W b 38 dv' iv' pv' o' ∧ Mod (some b) w W := by
  obtain ⟨a1, n1, c1, a2, n2, c2, a3, n3, c3, rfl, rfl, rfl⟩ := h.forms
  have hcells : (ObV (.slice a1 n1 c1) (.slice a2 n2 c2) (.slice a3 n3 c3) o').cells = ObC (.slice a1 n1 c1) (.slice a2 n2 c2) (.slice a3 n3 c3) o' := by simp [ObV, ObC, Value.cells]
  refine ⟨_, run_storeAll sz_ob_r hb rfl (by rw [hcells]; rfl) (by rw [hcells]; intro u hu; simp [ObC] at hu; rcases hu with rfl | rfl | rfl | rfl | rfl | rfl | rfl | rfl <;> rfl), ?_, setRow_mod _⟩
  rw [hcells]
  exact setRow_heap w b _ _ _ _ hb
theorem same_load_r {w : World} {b : Nat} {dv iv pv : Value} {o : Ob} {k : Value → Prop} (h : IsOb w dv iv pv o) (hb : OBlk w b 38 dv iv pv o) (hk : k (ObV dv iv pv o)) : SameP Try.prog (loadRes 38 (.pointer (some ⟨b, 0, none⟩))) w k := by
  obtain ⟨a1, n1, c1, a2, n2, c2, a3, n3, c3, rfl, rfl, rfl⟩ := h.forms
  obtain ⟨g0, g1, g2, g3, g4, g5, g6, g7, _⟩ := hb.cell
  refine ⟨_, ?_, hk⟩
  simp [go_sem, loadRes, asAddr, loadVar, g0, g1, g2, g3, g4, g5, g6, g7, ObV, ObC]
/-! ### rows of a tree -/
theorem u_items_r : Try.prog.underlying 36 = some (.slice 87) := by kernel_rfl
theorem agg_items_r (w : World) : (isAgg 36).run Try.prog w = .ok false w := by kernel_rfl
theorem sz_items_r (w : World) : (sizeOf 36).run Try.prog w = .ok 1 w := by kernel_rfl
theorem sz_it_r (w : World) : (sizeOf 87).run Try.prog w = .ok 3 w := by kernel_rfl

theorem IR.len_r {w0 w : World} {v : Value} {l : List It} {ty : TypeId} {k : Value → World → Prop} (h : IR w0 v l) (hk : k (.int .i64 (l.length : Nat)) w) : Does Try.prog (Builtin.len_ #[36] ty #[v]) w k := by
  obtain ⟨a, c, rfl, _⟩ := h
  have he : Try.prog.elem 36 = 87 := by simp [Program.elem, u_items_r]
  rw [does_eq, run_len_slice (h := by rw [he]; exact u_items_r)]
  exact hk
theorem IR.at_r {w0 : World} {v : Value} {l : List It} {i : Nat} {x : It} (h : IR w0 v l) (hx : l[i]? = some x) : ∃ p : Addr, p.spot = none ∧ (∀ (kk : IntKind) (W : World), (Instr.indexAt 36 v (.int kk (i : Nat))).run Try.prog W = .ok (.pointer (some p)) W) ∧
    w0.cell? p = some (.int .i64 x.mode) ∧ w0.cell? (p.add 1) = some (.string x.name) ∧ w0.cell? (p.add 2) = some (.string x.id) := by
  obtain ⟨a, c, rfl, h2, h3, h4⟩ := h
  obtain ⟨hi, _⟩ := List.getElem?_eq_some_iff.1 hx
  obtain ⟨g0, g1, g2⟩ := itV_get hx
  obtain ⟨ad, rfl, k0⟩ := h4 _ _ g0
  obtain ⟨_, e1, k1⟩ := h4 _ _ g1
  obtain ⟨_, e2, k2⟩ := h4 _ _ g2
  cases e1
  cases e2
  have he : Try.prog.elem 36 = 87 := by simp [Program.elem, u_items_r]
  have hsp : ad.spot = none := by
    have h0 : 0 < l.length := by omega
    obtain ⟨z0, _, _⟩ := itV_get (i := 0) (x := l[0]) (List.getElem?_eq_getElem h0)
    obtain ⟨_, e0, q0⟩ := h4 _ _ z0
    cases e0
    have := cell_spot q0
    simpa [Addr.add] using this
  refine ⟨ad.add (i * 3), cell_spot k0, fun kk W => ?_, k0, ?_, ?_⟩
  · rw [run_indexAt_slice (h := by rw [he]; exact u_items_r), if_pos ⟨by omega, by omega⟩, he, sz_it_r]
    simp
  · rw [add_add' _ _ _ hsp]; exact k1
  · rw [add_add' _ _ _ hsp]; exact k2
theorem run_fieldI_r {p : Addr} (hp : p.spot = none) (w : World) : (Instr.fieldAt 87 (.pointer (some p)) 0).run Try.prog w = .ok (.pointer (some p)) w ∧ (Instr.fieldAt 87 (.pointer (some p)) 1).run Try.prog w = .ok (.pointer (some (p.add 1))) w ∧
    (Instr.fieldAt 87 (.pointer (some p)) 2).run Try.prog w = .ok (.pointer (some (p.add 2))) w := by
  have h0 : p.add 0 = p := by unfold Addr.add; simp
  refine ⟨?_, ?_, ?_⟩ <;> simp [go_sem, Instr.fieldAt, h0]
theorem run_loadI_r {w : World} {p : Addr} {x : It} (hp : p.spot = none) (h0 : w.cell? p = some (.int .i64 x.mode)) (h1 : w.cell? (p.add 1) = some (.string x.name)) (h2 : w.cell? (p.add 2) = some (.string x.id)) : (Instr.loadAt 87 (.pointer (some p))).run Try.prog w = .ok (.agg (cellsI x).toArray) w := by
  obtain ⟨b, off, sp⟩ := p
  simp only at hp
  subst hp
  simp [Addr.add] at h1 h2
  simp [go_sem, Instr.loadAt, Instr.sureAddr, loadVar, Addr.add, h0, h1, h2, cellsI]
theorem run_allocI_r (w : World) : (Instr.alloc 87 true (.tuple #[])).run Try.prog w = .ok (.pointer (some ⟨w.heap.size, 0, none⟩)) (w.alloc (.cells #[.int .i64 0, .string noS, .string noS] 87)) := by
  simp [go_sem, Instr.alloc, noS]
/-- a local copy of a row -/
theorem local_r {w : World} {x : It} {k : Value → Unit → World → Prop} (hk : ∀ W, Ext w W → W.heap[w.heap.size]? = some (.cells (cellsI x).toArray 87) → k (.pointer (some ⟨w.heap.size, 0, none⟩)) () W) :
    Does Try.prog (Instr.alloc 87 true (.tuple #[])) w fun t w => Does Try.prog (Instr.storeAt 87 t (.agg (cellsI x).toArray)) w fun u w => k t u w := by
  refine does_of (run_allocI_r w) ?_
  have hb := heap_alloc_new w (.cells #[.int .i64 0, .string noS, .string noS] 87)
  refine does_of (run_storeAll sz_it_r hb rfl (by rw [itC_eq]; rfl) (by rw [itC_eq]; intro u hu; simp [cellsI] at hu; rcases hu with rfl | rfl | rfl <;> rfl)) (hk _ ?_ ?_)
  · exact Mod.ext (ext_any _ w) (setRow_mod _) (fun k hk => by cases hk; exact Nat.le_refl _)
  · rw [itC_eq]
    exact setRow_heap _ _ _ _ _ _ hb

theorem info_it_r : ∃ i, Try.prog.info? 87 = some i ∧ i.zero = some (.agg #[.int .i64 0, .string noS, .string noS]) ∧ i.size = 3 ∧ i.bytes = 40 := by
  have h : (Try.prog.info? 87).map (fun i => (i.zero, i.size, i.bytes)) = some (some (.agg #[.int .i64 0, .string noS, .string noS]), 3, 40) := by kernel_rfl
  obtain ⟨i, hi, hz⟩ := Option.map_eq_some_iff.1 h
  simp only [Prod.mk.injEq] at hz
  exact ⟨i, hi, hz.1, hz.2.1, hz.2.2⟩
theorem run_buildI_r (x : It) (w : World) : (Instr.build 87 #[(0, .int .i64 x.mode), (1, .string x.name), (2, .string x.id)]).run Try.prog w = .ok (.agg (cellsI x).toArray) w := by
  simp [go_sem, Instr.build, cellsI]
theorem run_buildSliceI_r (x : It) (w : World) : (Instr.buildSlice 36 1 #[(0, .agg (cellsI x).toArray)]).run Try.prog w = .ok (.slice (some ⟨w.heap.size, 0, none⟩) 1 1) (w.alloc (.cells (cellsI x).toArray 87)) := by
  simp [go_sem, Instr.buildSlice, cellsI]
/-- one row behind others -/
theorem Own3.push_r {w : World} {base : Nat} {v t : Value} {l : List It} {x : It} {ty : TypeId} {k : Value → World → Prop} (ho : Own3 w base 87 v l) (ht : IR w t [x]) (hl : l.length + 1 ≤ 1099511627776) (hbase : base ≤ w.heap.size)
    (hk : ∀ v' w', Own3 w' base 87 v' (l ++ [x]) → Mod v.ownBlock w w' → (v'.ownBlock = v.ownBlock ∨ v'.ownBlock = some w.heap.size) → k v' w') : Does Try.prog (Builtin.append_ #[36, 36] ty #[v, t]) w k := by
  obtain ⟨i, hi, hz, hs, hb⟩ := info_it_r
  obtain ⟨a, c, rfl, h2, h3, h4⟩ := ht
  obtain ⟨z0, _, _⟩ := itV_get (l := [x]) (i := 0) (x := x) rfl
  obtain ⟨ad, rfl, _⟩ := h4 _ _ z0
  obtain ⟨v', w', hrun, hown, hg, _, hat⟩ := run_append_own_at (P := Try.prog) w base 36 ty 87 i _ 3 40 u_items_r hi hz hs hb rfl (by omega) v l.length (itV l) ho ad [x].length c (itV [x]) (by simp) (fun j u hj => by obtain ⟨ad', e, q⟩ := h4 j u hj; cases e; exact q)
    (fun u hu => by simp [itV, cellsI] at hu; rcases hu with rfl | rfl | rfl <;> rfl) (by simp [maxLen]; omega) (by simp; omega) hbase
  refine does_of hrun (hk v' w' ?_ hg hat)
  unfold Own3
  rw [itV_append, List.length_append]
  exact hown
end Go.Proofs.Ytcncgkkilgmphaa
