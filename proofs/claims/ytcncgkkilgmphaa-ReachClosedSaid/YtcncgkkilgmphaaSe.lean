/-
  Contract: marref1.Sum, marref1.ID.
-/
import Derived.Test.YtcncgkkilgmphaaSc
set_option linter.unusedVariables false
set_option linter.unusedSimpArgs false
namespace Go.Proofs.Ytcncgkkilgmphaa
open Go Go.RowKit

theorem constants_spec {w : World} : Call Try.prog 92 #[] w fun v w' => Row w' v (wordsV kK) ∧ Ext w w' := by
  refine vc92 (_u := ()) ?_
  unfold V92
  refine ⟨wsl w.heap.size 64, w.alloc (.cells (wordsA kK) 120), by kernel_rfl, ?_, ext_any _ w⟩
  refine ⟨some ⟨w.heap.size, 0, none⟩, 64, rfl, ⟨by simp [wordsV, kK, maxLen], by simp [wordsV, kK]⟩, fun j x hj => ⟨_, rfl, ?_⟩⟩
  have ha : (⟨w.heap.size, 0, none⟩ : Addr).add j = ⟨w.heap.size, j, none⟩ := by unfold Addr.add; split <;> simp_all
  rw [ha]
  have hk : Kp w.heap.size (wordsA kK) 120 (w.alloc (.cells (wordsA kK) 120)) := heap_alloc_new w _
  exact hk.cell (by simpa [wordsA, wordsV] using hj)
theorem run_make64 (w : World) : (Instr.makeSlice 118 (.int .i64 64) (.int .i64 64)).run Try.prog w = .ok (wsl w.heap.size 64) (w.alloc (.cells (wordsA (List.replicate 64 0)) 120)) := by kernel_rfl
theorem run_allocV (w : World) : (Instr.alloc 123 true (.tuple #[])).run Try.prog w = .ok (.pointer (some ⟨w.heap.size, 0, none⟩)) (w.alloc (.cells (wordsA (List.replicate 8 0)) 123)) := by kernel_rfl
theorem run_sliceV (b : Nat) (w : World) : (Instr.sliceAt 123 (.pointer (some ⟨b, 0, none⟩)) none none none).run Try.prog w = .ok (wsl b 8) w := by
  simp [go_sem, Instr.sliceAt, Instr.slice, wsl]
theorem take_set_succ {l : List Nat} {i x : Nat} (h : i < l.length) : (l.set i x).take (i + 1) = l.take i ++ [x] := by
  rw [List.take_succ_eq_append_getElem (by simpa using h), List.getElem_set_self, List.take_set_of_le (Nat.le_refl _)]
theorem set_lt {l : List Nat} {i x : Nat} (h : ∀ y ∈ l, y < 4294967296) (hx : x < 4294967296) : ∀ y ∈ l.set i x, y < 4294967296 := fun y hy => by
  rcases List.mem_or_eq_of_mem_set hy with hy | rfl
  · exact h y hy
  · exact hx
theorem extW_succ : ∀ (k : Nat) (w : List Nat), extW (k + 1) w = extW k w ++ [nextW (extW k w)]
  | 0, w => rfl
  | k + 1, w => by
    show extW (k + 1) (w ++ [nextW w]) = _
    rw [extW_succ k]
    rfl
theorem getD_drop8 {m : List UInt8} {a i : Nat} : (m.drop a).getD i 0 = m.getD (a + i) 0 := by simp [List.getD]
theorem getD_take {l : List Nat} {i j : Nat} (h : j < i) : (l.take i).getD j 0 = l.getD j 0 := by simp [List.getD, h]
def hcur (x y : Oct) (i : Nat) : List Nat := (addV x y).l.take i ++ x.l.drop i
theorem hcur_step (x y : Oct) {i : Nat} (h : i < 8) : (hcur x y i).set i (((hcur x y i).getD i 0 + y.l.getD i 0) % 4294967296) = hcur x y (i + 1) := by
  match i, h with
  | 0, _ => rfl
  | 1, _ => rfl
  | 2, _ => rfl
  | 3, _ => rfl
  | 4, _ => rfl
  | 5, _ => rfl
  | 6, _ => rfl
  | 7, _ => rfl
theorem lenB_get (n : Nat) {j : Nat} (h : j < 8) : (lenB n).take (j + 1) = (lenB n).take j ++ [UInt8.ofNat (n / 2 ^ (8 * (7 - j)))] := by
  match j, h with
  | 0, _ => rfl
  | 1, _ => rfl
  | 2, _ => rfl
  | 3, _ => rfl
  | 4, _ => rfl
  | 5, _ => rfl
  | 6, _ => rfl
  | 7, _ => simp [lenB]
theorem octs_get (v : Oct) {i : Nat} (h : i < 8) : (v.l.take (i + 1)).flatMap out4 = (v.l.take i).flatMap out4 ++ out4 (v.l.getD i 0) := by
  match i, h with
  | 0, _ => rfl
  | 1, _ => rfl
  | 2, _ => rfl
  | 3, _ => rfl
  | 4, _ => rfl
  | 5, _ => rfl
  | 6, _ => rfl
  | 7, _ => rfl
structure PadSt where
  v : Value
  j : Nat
structure BlkSt where
  n : Nat
  ws : List Nat
structure WrdSt where
  i : Nat
  ws : List Nat
structure OutSt where
  v : Value
  i : Nat
theorem run_buildV (v : Oct) (w : World) : (Instr.build 123 #[(0, u32V v.a), (1, u32V v.b), (2, u32V v.c), (3, u32V v.d), (4, u32V v.e), (5, u32V v.f), (6, u32V v.g), (7, u32V v.h)]).run Try.prog w = .ok (.agg (wordsA v.l)) w := by
  simp [go_sem, Instr.build, u32V, wordsA, Oct.l]
theorem store_V {w : World} {b : Nat} {l : List Nat} {v : Oct} (h : Kp b (wordsA l) 123 w) (hl : l.length = 8) : ∃ W, (Instr.storeAt 123 (.pointer (some ⟨b, 0, none⟩)) (.agg (wordsA v.l))).run Try.prog w = .ok () W ∧ Kp b (wordsA v.l) 123 W ∧ Mod (some b) w W := by
  have hc : (Value.agg (wordsA v.l)).cells = wordsA v.l := by simp [wordsA, Oct.l, u32V, Value.cells]
  refine ⟨_, run_storeAll sz_arr h (by simp [wordsA, hl]) (by rw [hc]; rfl) (by rw [hc]; intro u hu; simp [wordsA] at hu; obtain ⟨a, _, rfl⟩ := hu; rfl), ?_, setRow_mod _⟩
  rw [hc]
  exact setRow_heap w b _ _ _ _ h
theorem copy_V {w : World} {vb hb : Nat} {l : List Nat} {v : Oct} {ty : TypeId} (h : Kp vb (wordsA l) 123 w) (hl : l.length = 8) (hh : Kp hb (wordsA v.l) 120 w) : ∃ r W, (Builtin.copy_ #[118, 118] ty #[wsl vb 8, wsl hb 8]).run Try.prog w = .ok r W ∧ Kp vb (wordsA v.l) 123 W ∧ Mod (some vb) w W := by
  have hinfo : (Try.prog.info? 120).map (·.size) = some 1 := by kernel_rfl
  have hrun := run_copy_row (P := Try.prog) w 118 118 ty 120 vb 0 8 8 ⟨hb, 0, none⟩ 8 8 (wordsA l) 123 (wordsV v.l) u_words hinfo h rfl
    (fun j x hj => by
      have ha : (⟨hb, 0, none⟩ : Addr).add j = ⟨hb, j, none⟩ := by unfold Addr.add; split <;> simp_all
      rw [ha]
      exact hh.cell (by simpa [wordsA, wordsV] using hj)) (by simp [wordsA, wordsV, Oct.l, hl]) (fun u hu => by simp [wordsV] at hu; obtain ⟨a, _, rfl⟩ := hu; rfl)
  have hcs : ((wordsA l).toList.take 0 ++ wordsV v.l ++ (wordsA l).toList.drop (0 + (wordsV v.l).length)).toArray = wordsA v.l := by
    have e1 : (wordsV v.l).length = 8 := rfl
    have e2 : (wordsA l).toList.length = 8 := by simp [wordsA, hl]
    rw [e1, List.take_zero, List.nil_append, List.drop_of_length_le (by omega), List.append_nil]
    rfl
  rw [hcs] at hrun
  exact ⟨_, _, hrun, setRow_heap w vb (wordsA l) (wordsA v.l) _ _ h, setRow_mod _⟩
set_option maxHeartbeats 2000000 in
theorem rounds_spec {w0 W : World} {mv kv : Value} {hb wb vb : Nat} {m : List UInt8} {hl ws : List Nat} {v0 : Oct} {K : World → Prop} (h : ShSt w0 W mv hb wb m hl ws) (hk : Row w0 kv (wordsV kK)) (hw : ∀ x ∈ ws, x < 4294967296) (hv : Kp vb (wordsA v0.l) 123 W) (hg : w0.heap.size ≤ vb) (h0 : v0.Ok)
    {B : VF 1 → VF 1} (hB : ∀ (next : VF 1) (i : Nat) (v : Oct) (W : World), i < 64 → ShSt w0 W mv hb wb m hl ws → Kp vb (wordsA v.l) 123 W → v.Ok → (∀ W', ShSt w0 W' mv hb wb m hl ws → Kp vb (wordsA (rnd (kK.getD i 0) (ws.getD i 0) v).l) 123 W' → next (.int .i64 ((i + 1 : Nat) : Int)) W') → B next (.int .i64 (i : Nat)) W)
    (hend : ∀ (next : VF 1) (W : World), ShSt w0 W mv hb wb m hl ws → Kp vb (wordsA (rndsF kK ws 64 v0).l) 123 W → B next (.int .i64 ((64 : Nat) : Int)) W) : Rounds 1 B (.int .i64 0) W := by
  refine rounds1 (σ := Nat) (fun i => .int .i64 ((i : Nat) : Int)) (fun i W => i ≤ 64 ∧ ShSt w0 W mv hb wb m hl ws ∧ Kp vb (wordsA (rndsF kK ws i v0).l) 123 W) (fun i _ => 64 - i) 0 rfl ⟨by omega, h, hv⟩ ?_
  rintro next i W ⟨hi, hS, hK⟩ hnext
  rcases Nat.lt_or_ge i 64 with hlt | hge
  · exact hB next i _ W hlt hS hK (rndsF_ok h0 i) fun W' h1 h2 => hnext (i + 1) _ W' rfl ⟨hlt, h1, h2⟩ (by omega)
  · have : i = 64 := by omega
    subst this
    exact hend next W hS hK
end Go.Proofs.Ytcncgkkilgmphaa
