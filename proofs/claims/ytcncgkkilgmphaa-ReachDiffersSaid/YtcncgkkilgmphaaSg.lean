/-
  Contract: marref1.Sum, marref1.ID.
  Contract: marref1.Sum: its loops.
  Contract: marref1.Sum, marref1.ID: the walk.
-/
import Derived.Test.YtcncgkkilgmphaaSc
set_option linter.unusedVariables false
set_option linter.unusedSimpArgs false
namespace Go.Proofs.Ytcncgkkilgmphaa
open Go Go.RowKit

theorem constants_spec {w : World} : Call Try.prog 92 #[] w fun v w' => Row w' v (wordsV kK) ∧ Ext w w' := by
  refine vc92 (_u := ()) ?_
  unfold V92
  refine ⟨wsl w.heap.size 64, w.alloc (.cells (wordsA kK) 120), by kernel_rfl, ?_, ext_any _ w⟩
  refine ⟨some ⟨w.heap.size, 0, none⟩, 64, rfl, ⟨by simp [wordsV, kK, maxLen], by simp [wordsV, kK]⟩, fun j x hj => ⟨_, rfl, ?_⟩⟩
  have ha : (⟨w.heap.size, 0, none⟩ : Addr).add j = ⟨w.heap.size, j, none⟩ := by unfold Addr.add; split <;> simp_all
  rw [ha]
  have hk : Kp w.heap.size (wordsA kK) 120 (w.alloc (.cells (wordsA kK) 120)) := heap_alloc_new w _
  exact hk.cell (by simpa [wordsA, wordsV] using hj)
theorem run_make64 (w : World) : (Instr.makeSlice 118 (.int .i64 64) (.int .i64 64)).run Try.prog w = .ok (wsl w.heap.size 64) (w.alloc (.cells (wordsA (List.replicate 64 0)) 120)) := by kernel_rfl
theorem run_allocV (w : World) : (Instr.alloc 123 true (.tuple #[])).run Try.prog w = .ok (.pointer (some ⟨w.heap.size, 0, none⟩)) (w.alloc (.cells (wordsA (List.replicate 8 0)) 123)) := by kernel_rfl
theorem run_sliceV (b : Nat) (w : World) : (Instr.sliceAt 123 (.pointer (some ⟨b, 0, none⟩)) none none none).run Try.prog w = .ok (wsl b 8) w := by
  simp [go_sem, Instr.sliceAt, Instr.slice, wsl]
theorem take_set_succ {l : List Nat} {i x : Nat} (h : i < l.length) : (l.set i x).take (i + 1) = l.take i ++ [x] := by
  rw [List.take_succ_eq_append_getElem (by simpa using h), List.getElem_set_self, List.take_set_of_le (Nat.le_refl _)]
theorem set_lt {l : List Nat} {i x : Nat} (h : ∀ y ∈ l, y < 4294967296) (hx : x < 4294967296) : ∀ y ∈ l.set i x, y < 4294967296 := fun y hy => by
  rcases List.mem_or_eq_of_mem_set hy with hy | rfl
  · exact h y hy
  · exact hx
theorem extW_succ : ∀ (k : Nat) (w : List Nat), extW (k + 1) w = extW k w ++ [nextW (extW k w)]
  | 0, w => rfl
  | k + 1, w => by
    show extW (k + 1) (w ++ [nextW w]) = _
    rw [extW_succ k]
    rfl
theorem getD_drop8 {m : List UInt8} {a i : Nat} : (m.drop a).getD i 0 = m.getD (a + i) 0 := by simp [List.getD]
theorem getD_take {l : List Nat} {i j : Nat} (h : j < i) : (l.take i).getD j 0 = l.getD j 0 := by simp [List.getD, h]
def hcur (x y : Oct) (i : Nat) : List Nat := (addV x y).l.take i ++ x.l.drop i
theorem hcur_step (x y : Oct) {i : Nat} (h : i < 8) : (hcur x y i).set i (((hcur x y i).getD i 0 + y.l.getD i 0) % 4294967296) = hcur x y (i + 1) := by
  match i, h with
  | 0, _ => rfl
  | 1, _ => rfl
  | 2, _ => rfl
  | 3, _ => rfl
  | 4, _ => rfl
  | 5, _ => rfl
  | 6, _ => rfl
  | 7, _ => rfl
theorem lenB_get (n : Nat) {j : Nat} (h : j < 8) : (lenB n).take (j + 1) = (lenB n).take j ++ [UInt8.ofNat (n / 2 ^ (8 * (7 - j)))] := by
  match j, h with
  | 0, _ => rfl
  | 1, _ => rfl
  | 2, _ => rfl
  | 3, _ => rfl
  | 4, _ => rfl
  | 5, _ => rfl
  | 6, _ => rfl
  | 7, _ => simp [lenB]
theorem octs_get (v : Oct) {i : Nat} (h : i < 8) : (v.l.take (i + 1)).flatMap out4 = (v.l.take i).flatMap out4 ++ out4 (v.l.getD i 0) := by
  match i, h with
  | 0, _ => rfl
  | 1, _ => rfl
  | 2, _ => rfl
  | 3, _ => rfl
  | 4, _ => rfl
  | 5, _ => rfl
  | 6, _ => rfl
  | 7, _ => rfl
structure PadSt where
  v : Value
  j : Nat
structure BlkSt where
  n : Nat
  ws : List Nat
structure WrdSt where
  i : Nat
  ws : List Nat
structure OutSt where
  v : Value
  i : Nat
theorem run_buildV (v : Oct) (w : World) : (Instr.build 123 #[(0, u32V v.a), (1, u32V v.b), (2, u32V v.c), (3, u32V v.d), (4, u32V v.e), (5, u32V v.f), (6, u32V v.g), (7, u32V v.h)]).run Try.prog w = .ok (.agg (wordsA v.l)) w := by
  simp [go_sem, Instr.build, u32V, wordsA, Oct.l]
theorem store_V {w : World} {b : Nat} {l : List Nat} {v : Oct} (h : Kp b (wordsA l) 123 w) (hl : l.length = 8) : ∃ W, (Instr.storeAt 123 (.pointer (some ⟨b, 0, none⟩)) (.agg (wordsA v.l))).run Try.prog w = .ok () W ∧ Kp b (wordsA v.l) 123 W ∧ Mod (some b) w W := by
  have hc : (Value.agg (wordsA v.l)).cells = wordsA v.l := by simp [wordsA, Oct.l, u32V, Value.cells]
  refine ⟨_, run_storeAll sz_arr h (by simp [wordsA, hl]) (by rw [hc]; rfl) (by rw [hc]; intro u hu; simp [wordsA] at hu; obtain ⟨a, _, rfl⟩ := hu; rfl), ?_, setRow_mod _⟩
  rw [hc]
  exact setRow_heap w b _ _ _ _ h
theorem copy_V {w : World} {vb hb : Nat} {l : List Nat} {v : Oct} {ty : TypeId} (h : Kp vb (wordsA l) 123 w) (hl : l.length = 8) (hh : Kp hb (wordsA v.l) 120 w) : ∃ r W, (Builtin.copy_ #[118, 118] ty #[wsl vb 8, wsl hb 8]).run Try.prog w = .ok r W ∧ Kp vb (wordsA v.l) 123 W ∧ Mod (some vb) w W := by
  have hinfo : (Try.prog.info? 120).map (·.size) = some 1 := by kernel_rfl
  have hrun := run_copy_row (P := Try.prog) w 118 118 ty 120 vb 0 8 8 ⟨hb, 0, none⟩ 8 8 (wordsA l) 123 (wordsV v.l) u_words hinfo h rfl
    (fun j x hj => by
      have ha : (⟨hb, 0, none⟩ : Addr).add j = ⟨hb, j, none⟩ := by unfold Addr.add; split <;> simp_all
      rw [ha]
      exact hh.cell (by simpa [wordsA, wordsV] using hj)) (by simp [wordsA, wordsV, Oct.l, hl]) (fun u hu => by simp [wordsV] at hu; obtain ⟨a, _, rfl⟩ := hu; rfl)
  have hcs : ((wordsA l).toList.take 0 ++ wordsV v.l ++ (wordsA l).toList.drop (0 + (wordsV v.l).length)).toArray = wordsA v.l := by
    have e1 : (wordsV v.l).length = 8 := rfl
    have e2 : (wordsA l).toList.length = 8 := by simp [wordsA, hl]
    rw [e1, List.take_zero, List.nil_append, List.drop_of_length_le (by omega), List.append_nil]
    rfl
  rw [hcs] at hrun
  exact ⟨_, _, hrun, setRow_heap w vb (wordsA l) (wordsA v.l) _ _ h, setRow_mod _⟩
set_option maxHeartbeats 2000000 in
theorem rounds_spec {w0 W : World} {mv kv : Value} {hb wb vb : Nat} {m : List UInt8} {hl ws : List Nat} {v0 : Oct} {K : World → Prop} (h : ShSt w0 W mv hb wb m hl ws) (hk : Row w0 kv (wordsV kK)) (hw : ∀ x ∈ ws, x < 4294967296) (hv : Kp vb (wordsA v0.l) 123 W) (hg : w0.heap.size ≤ vb) (h0 : v0.Ok)
    {B : VF 1 → VF 1} (hB : ∀ (next : VF 1) (i : Nat) (v : Oct) (W : World), i < 64 → ShSt w0 W mv hb wb m hl ws → Kp vb (wordsA v.l) 123 W → v.Ok → (∀ W', ShSt w0 W' mv hb wb m hl ws → Kp vb (wordsA (rnd (kK.getD i 0) (ws.getD i 0) v).l) 123 W' → next (.int .i64 ((i + 1 : Nat) : Int)) W') → B next (.int .i64 (i : Nat)) W)
    (hend : ∀ (next : VF 1) (W : World), ShSt w0 W mv hb wb m hl ws → Kp vb (wordsA (rndsF kK ws 64 v0).l) 123 W → B next (.int .i64 ((64 : Nat) : Int)) W) : Rounds 1 B (.int .i64 0) W := by
  refine rounds1 (σ := Nat) (fun i => .int .i64 ((i : Nat) : Int)) (fun i W => i ≤ 64 ∧ ShSt w0 W mv hb wb m hl ws ∧ Kp vb (wordsA (rndsF kK ws i v0).l) 123 W) (fun i _ => 64 - i) 0 rfl ⟨by omega, h, hv⟩ ?_
  rintro next i W ⟨hi, hS, hK⟩ hnext
  rcases Nat.lt_or_ge i 64 with hlt | hge
  · exact hB next i _ W hlt hS hK (rndsF_ok h0 i) fun W' h1 h2 => hnext (i + 1) _ W' rfl ⟨hlt, h1, h2⟩ (by omega)
  · have : i = 64 := by omega
    subst this
    exact hend next W hS hK
end Go.Proofs.Ytcncgkkilgmphaa

set_option linter.unusedVariables false
set_option linter.unusedSimpArgs false
namespace Go.Proofs.Ytcncgkkilgmphaa
open Go Go.RowKit

/-- the last loop: the words as bytes -/
theorem out_loop {w0 W : World} {hb : Nat} {v : Oct} {R : Value → World → Prop} (hE : Ext w0 W) (hk : Kp hb (wordsA v.l) 120 W) {B : VF 2 → VF 2}
    (hB : ∀ (next : VF 2) (i : Nat) (ov : Value) (l : List UInt8) (W : World), i < 8 → Ext w0 W → Kp hb (wordsA v.l) 120 W → OwnB w0 W ov l → l.length ≤ 32 → (∀ ov' W', Ext w0 W' → Kp hb (wordsA v.l) 120 W' → OwnB w0 W' ov' (l ++ out4 (v.l.getD i 0)) → next ov' (.int .i64 ((i + 1 : Nat) : Int)) W') → B next ov (.int .i64 (i : Nat)) W)
    (hend : ∀ (next : VF 2) (ov : Value) (W : World), Ext w0 W → OwnB w0 W ov (v.l.flatMap out4) → B next ov (.int .i64 ((8 : Nat) : Int)) W) : Rounds 2 B (.slice none 0 0) (.int .i64 0) W := by
  refine rounds2 (σ := OutSt) (fun s => s.v) (fun s => .int .i64 ((s.i : Nat) : Int)) (fun s W => s.i ≤ 8 ∧ Ext w0 W ∧ Kp hb (wordsA v.l) 120 W ∧ OwnB w0 W s.v ((v.l.take s.i).flatMap out4)) (fun s _ => 8 - s.i) ⟨.slice none 0 0, 0⟩ rfl rfl ⟨by simp, hE, hk, OwnB.nil _ _⟩ ?_
  rintro next ⟨ov, i⟩ W ⟨hi, hE', hk', ho⟩ hnext
  simp only at hi ho ⊢
  rcases Nat.lt_or_ge i 8 with hlt | hge
  · have hl : ((v.l.take i).flatMap out4).length ≤ 32 := by
      have := flat_le (l := v.l.take i) (f := out4) (K := 4) fun x _ => Nat.le_refl _
      have h2 : (v.l.take i).length ≤ 8 := by simp; omega
      omega
    refine hB next i ov _ W hlt hE' hk' ho hl fun ov' W' h1 h2 h3 => hnext ⟨ov', i + 1⟩ _ _ W' rfl rfl ⟨hlt, h1, h2, ?_⟩ (by simp only; omega)
    simp only
    rw [octs_get v hlt]
    exact h3
  · have : i = 8 := by omega
    subst this
    exact hend next ov W hE' ho

section
variable {w0 W : World} {mv : Value} {hb wb vb : Nat} {m : List UInt8} {hl ws : List Nat}
theorem fill_loop (mb : List UInt8) (h : ShSt w0 W mv hb wb m hl ws) (hw : ∀ x ∈ ws, x < 4294967296) {B : VF 1 → VF 1}
    (hB : ∀ (next : VF 1) (i : Nat) (ws : List Nat) (W : World), i < 16 → ShSt w0 W mv hb wb m hl ws → (∀ W', ShSt w0 W' mv hb wb m hl (ws.set i (word (mb.getD (4 * i) 0).toNat (mb.getD (4 * i + 1) 0).toNat (mb.getD (4 * i + 2) 0).toNat (mb.getD (4 * i + 3) 0).toNat)) → next (.int .i64 ((i + 1 : Nat) : Int)) W') → B next (.int .i64 (i : Nat)) W)
    (hend : ∀ (next : VF 1) (ws : List Nat) (W : World), ShSt w0 W mv hb wb m hl ws → (∀ x ∈ ws, x < 4294967296) → ws.take 16 = wordsOf mb 16 → B next (.int .i64 ((16 : Nat) : Int)) W) : Rounds 1 B (.int .i64 0) W := by
  refine rounds1 (σ := WrdSt) (fun s => .int .i64 ((s.i : Nat) : Int)) (fun s W => s.i ≤ 16 ∧ ShSt w0 W mv hb wb m hl s.ws ∧ (∀ x ∈ s.ws, x < 4294967296) ∧ s.ws.take s.i = wordsOf mb s.i) (fun s _ => 16 - s.i) ⟨0, ws⟩ rfl ⟨by simp, h, hw, rfl⟩ ?_
  rintro next ⟨i, ws⟩ W ⟨hi, hS, hx, ht⟩ hnext
  simp only at hi hS hx ht ⊢
  rcases Nat.lt_or_ge i 16 with hlt | hge
  · refine hB next i ws W hlt hS fun W' h1 => hnext ⟨i + 1, _⟩ _ W' rfl ⟨hlt, h1, set_lt hx (word_lt (UInt8.toNat_lt _) (UInt8.toNat_lt _) (UInt8.toNat_lt _) (UInt8.toNat_lt _)), ?_⟩ (by simp only; omega)
    simp only
    rw [take_set_succ (by rw [hS.lw]; omega), ht]
    rfl
  · have : i = 16 := by omega
    subst this
    exact hend next ws W hS hx ht
theorem ext_loop (mb : List UInt8) (h : ShSt w0 W mv hb wb m hl ws) (hw : ∀ x ∈ ws, x < 4294967296) (h16 : ws.take 16 = wordsOf mb 16) {B : VF 1 → VF 1}
    (hB : ∀ (next : VF 1) (i : Nat) (ws : List Nat) (W : World), 16 ≤ i → i < 64 → ShSt w0 W mv hb wb m hl ws → (∀ x ∈ ws, x < 4294967296) → (∀ W', ShSt w0 W' mv hb wb m hl (ws.set i ((((ws.getD (i - 16) 0 + s0F (ws.getD (i - 15) 0)) % 4294967296 + ws.getD (i - 7) 0) % 4294967296 + s1F (ws.getD (i - 2) 0)) % 4294967296)) → next (.int .i64 ((i + 1 : Nat) : Int)) W') → B next (.int .i64 (i : Nat)) W)
    (hend : ∀ (next : VF 1) (W : World), ShSt w0 W mv hb wb m hl (sched mb) → B next (.int .i64 ((64 : Nat) : Int)) W) : Rounds 1 B (.int .i64 16) W := by
  refine rounds1 (σ := WrdSt) (fun s => .int .i64 ((s.i : Nat) : Int)) (fun s W => 16 ≤ s.i ∧ s.i ≤ 64 ∧ ShSt w0 W mv hb wb m hl s.ws ∧ (∀ x ∈ s.ws, x < 4294967296) ∧ s.ws.take s.i = extW (s.i - 16) (wordsOf mb 16)) (fun s _ => 64 - s.i) ⟨16, ws⟩ rfl ⟨by simp, by simp, h, hw, h16⟩ ?_
  rintro next ⟨i, ws⟩ W ⟨hi0, hi, hS, hx, ht⟩ hnext
  simp only at hi0 hi hS hx ht ⊢
  rcases Nat.lt_or_ge i 64 with hlt | hge
  · refine hB next i ws W hi0 hlt hS hx fun W' h1 => hnext ⟨i + 1, _⟩ _ W' rfl ⟨by simp only; omega, hlt, h1, set_lt hx (Nat.mod_lt _ (by omega)), ?_⟩ (by simp only; omega)
    simp only
    have hl : (ws.take i).length = i := by rw [List.length_take, hS.lw]; omega
    rw [take_set_succ (by rw [hS.lw]; omega), show i + 1 - 16 = (i - 16) + 1 by omega, extW_succ, ← ht]
    unfold nextW
    rw [hl, getD_take (i := i) (j := i - 16) (by omega), getD_take (i := i) (j := i - 15) (by omega), getD_take (i := i) (j := i - 7) (by omega), getD_take (i := i) (j := i - 2) (by omega)]
    rfl
  · have : i = 64 := by omega
    subst this
    rw [List.take_of_length_le (by rw [hS.lw]; omega)] at ht
    have e : ws = sched mb := by unfold sched; exact ht
    rw [e] at hS
    exact hend next W hS
theorem add_loop (x y : Oct) (h : ShSt w0 W mv hb wb m x.l ws) (hv : Kp vb (wordsA y.l) 123 W) {B : VF 1 → VF 1}
    (hB : ∀ (next : VF 1) (i : Nat) (hl : List Nat) (W : World), i < 8 → ShSt w0 W mv hb wb m hl ws → Kp vb (wordsA y.l) 123 W → (∀ W', ShSt w0 W' mv hb wb m (hl.set i ((hl.getD i 0 + y.l.getD i 0) % 4294967296)) ws → Kp vb (wordsA y.l) 123 W' → next (.int .i64 ((i + 1 : Nat) : Int)) W') → B next (.int .i64 (i : Nat)) W)
    (hend : ∀ (next : VF 1) (W : World), ShSt w0 W mv hb wb m (addV x y).l ws → B next (.int .i64 ((8 : Nat) : Int)) W) : Rounds 1 B (.int .i64 0) W := by
  refine rounds1 (σ := Nat) (fun i => .int .i64 ((i : Nat) : Int)) (fun i W => i ≤ 8 ∧ ShSt w0 W mv hb wb m (hcur x y i) ws ∧ Kp vb (wordsA y.l) 123 W) (fun i _ => 8 - i) 0 rfl ⟨by omega, h, hv⟩ ?_
  rintro next i W ⟨hi, hS, hK⟩ hnext
  rcases Nat.lt_or_ge i 8 with hlt | hge
  · refine hB next i _ W hlt hS hK fun W' h1 h2 => hnext (i + 1) _ W' rfl ⟨hlt, ?_, h2⟩ (by omega)
    rw [← hcur_step x y hlt]
    exact h1
  · have : i = 8 := by omega
    subst this
    exact hend next W hS
end
end Go.Proofs.Ytcncgkkilgmphaa

set_option linter.unusedVariables false
set_option linter.unusedSimpArgs false
namespace Go.Proofs.Ytcncgkkilgmphaa
open Go Go.RowKit

section
variable {w0 W : World} {mv : Value} {hb wb vb : Nat} {m : List UInt8} {hl ws : List Nat} {v : Oct}
theorem region72_33' {J : VF 1} {kv : Value} {i : Nat} (h : ShSt w0 W mv hb wb m hl ws) (hv : Kp vb (wordsA v.l) 123 W) (hk : Row w0 kv (wordsV kK)) (hi : i < 64)
    (hJ : ∀ W', Ext W W' → J (u32V (t1F v.e v.f v.g v.h (kK.getD i 0) (ws.getD i 0))) W') :
    DrawP Try.prog 305 (opsOf Try.f72 33) [3, 8, 15, 16, 17, 18] [kv, wsl wb 64, .pointer (some ⟨vb, 0, none⟩), .int .i64 i, u32V ((trn v.e 6 ^^^ trn v.e 11) ^^^ trn v.e 25), u32V ((v.e &&& v.f) ^^^ ((4294967295 ^^^ v.e) &&& v.g))] [19] J W :=
  region72_33 h hv hk hi hJ
theorem not_lt {x : Nat} (hx : x < 4294967296) : 4294967295 ^^^ x < 4294967296 := xor_lt (by omega) hx
theorem and_lt {a b : Nat} (ha : a < 4294967296) : a &&& b < 4294967296 := Nat.lt_of_le_of_lt Nat.and_le_left ha
end
set_option maxHeartbeats 4000000 in
theorem sum_spec {w : World} {v : Value} {l : List UInt8} (hr : Row w v (bytesV l)) (hl : l.length ≤ 1048576) : Call Try.prog 72 #[v] w fun r w' => OwnB w w' r (sumL l) ∧ Ext w w' := by
  apply vc72
  unfold V72
  refine constants_spec.mono fun kv w1 ⟨hkv, hE1⟩ => does_of (run_buildK w1) ?_
  have hE2 := ext_any (.cells (wordsA h0K.l) 120) w1
  have hk2 : Kp w1.heap.size (wordsA h0K.l) 120 (w1.alloc (.cells (wordsA h0K.l) 120)) := heap_alloc_new w1 _
  generalize w1.alloc (.cells (wordsA h0K.l) 120) = w2 at hE2 hk2
  refine (copyBytes_spec ((hr.ext hE1).ext hE2) (by omega)).mono fun cv w3 ⟨hc3, hE3⟩ => ?_
  refine (hc3.back hE2).push (x := 128) (hE2.trans hE3) (by omega) fun m0 w4 hm4 hE4 hmod4 => ?_
  have hk4 : Kp w1.heap.size (wordsA h0K.l) 120 w4 := (hk2.ext hE3).mod hmod4 ((hc3.back hE2).ne (hk2.ext hE3) (by decide))
  have hz : (119 - l.length % 64) % 64 < 64 := Nat.mod_lt _ (by omega)
  refine rounds1 (σ := PadSt) (fun s => s.v) (fun s W => s.j ≤ (119 - l.length % 64) % 64 ∧ Ext w1 W ∧ Kp w1.heap.size (wordsA h0K.l) 120 W ∧ OwnB w1 W s.v ((l ++ [128]) ++ List.replicate s.j 0)) (fun s _ => (119 - l.length % 64) % 64 - s.j) ⟨m0, 0⟩ rfl ⟨Nat.zero_le _, hE4, hk4, by simpa using hm4⟩ ?_
  rintro next ⟨mv, j⟩ W ⟨hj, hE, hkh, ho⟩ hnext _
  simp only at hj ho ⊢
  have hlen : ((l ++ [128]) ++ List.replicate j (0 : UInt8)).length = l.length + 1 + j := by simp; omega
  refine ho.row.len u_bytes ?_
  rw [bytesV_length, hlen]
  refine does_of (run_rem64 (b := 64) (by omega) W) (does_of (run_neI W) (condP_of (fun hne => ?_) fun heq => ?_))
  · have hjz : j < (119 - l.length % 64) % 64 := by
      simp only [Bool.not_eq_true', decide_eq_false_iff_not] at hne
      omega
    refine ho.push (x := 0) hE (by rw [hlen]; omega) fun v' W' g1 g2 g3 => hnext ⟨v', j + 1⟩ _ W' rfl ⟨hjz, g2, hkh.mod g3 (ho.ne hkh (by decide)), ?_⟩ (by simp only; omega)
    simp only
    rw [List.replicate_succ', ← List.append_assoc]
    exact g1
  simp only [Bool.not_eq_false', decide_eq_true_eq] at heq
  have hjz : j = (119 - l.length % 64) % 64 := by omega
  clear hnext
  refine hr.len u_bytes ?_
  rw [bytesV_length]
  refine does_of (run_conv64u _ (by omega) W) (does_of (run_mulu64 (b := 8) (by omega) W) ?_)
  generalize hmm : (l ++ [128]) ++ List.replicate j (0 : UInt8) = mm at ho hlen
  refine rounds2 (σ := PadSt) (fun s => s.v) (fun s => .int .i64 (7 - ((s.j : Nat) : Int))) (fun s W => s.j ≤ 8 ∧ Ext w1 W ∧ Kp w1.heap.size (wordsA h0K.l) 120 W ∧ OwnB w1 W s.v (mm ++ (lenB (l.length * 8)).take s.j)) (fun s _ => 8 - s.j) ⟨mv, 0⟩ rfl rfl ⟨by simp, hE, hkh, by simpa using ho⟩ ?_
  rintro next ⟨mv2, i⟩ W2 ⟨hi, hE2', hkh2, ho2⟩ hnext _
  simp only at hi ho2 ⊢
  have hlen2 : (mm ++ (lenB (l.length * 8)).take i).length ≤ 1048576 + 200 := by
    have : ((lenB (l.length * 8)).take i).length ≤ 8 := by simp [lenB]; omega
    simp only [List.length_append]
    omega
  refine does_ge (condP_of (fun hge => ?_) fun hlt => ?_)
  · have hi7 : i < 8 := by simp at hge; omega
    rw [show (7 : Int) - ((i : Nat) : Int) = ((7 - i : Nat) : Int) by omega]
    refine does_of (run_mul64 (a := 8) (b := 7 - i) (by omega) W2) (does_of (run_shru64 (k := 8 * (7 - i)) (by omega) W2) (does_of (run_convu64_8 _ W2) ?_))
    refine ho2.push hE2' (by omega) fun v' W' g1 g2 g3 => does_sub (by omega) (by omega) (hnext ⟨v', i + 1⟩ _ _ W' rfl (by congr 1; simp only; omega) ⟨hi7, g2, hkh2.mod g3 (ho2.ne hkh2 (by decide)), ?_⟩ (by simp only; omega))
    simp only
    rw [lenB_get _ hi7, ← List.append_assoc]
    exact g1
  have hi8 : i = 8 := by simp at hlt; omega
  clear hnext
  rw [hi8] at ho2
  have hpad : mm ++ (lenB (l.length * 8)).take 8 = padL l := by
    rw [← hmm, hjz]
    rfl
  rw [hpad] at ho2
  have hpl := padL_length l
  have hpb : (padL l).length ≤ 1048776 := by rw [← hpad]; rw [hi8] at hlen2; exact hlen2
  generalize hpm : padL l = m at ho2 hpl hpb
  have goal : ∀ W', Ext w1 W' → ∀ ov, OwnB w1 W' ov ((blocksF m (m.length / 64)).l.flatMap out4) → OwnB w W' ov ((blocksF m (m.length / 64)).l.flatMap out4) ∧ Ext w W' := fun W' h1 ov h2 => ⟨h2.back hE1, hE1.trans h1⟩
  refine does_of (run_make64 W2) ?_
  have hE3' := ext_any (.cells (wordsA (List.replicate 64 0)) 120) W2
  have hkw : Kp W2.heap.size (wordsA (List.replicate 64 0)) 120 (W2.alloc (.cells (wordsA (List.replicate 64 0)) 120)) := heap_alloc_new W2 _
  have hS0 : ShSt w1 (W2.alloc (.cells (wordsA (List.replicate 64 0)) 120)) mv2 w1.heap.size W2.heap.size m h0K.l (List.replicate 64 0) := ⟨hE2'.trans hE3', ho2.ext hE3', hkh2.ext hE3', hkw, Nat.ne_of_lt hkh2.lt, Nat.le_refl _, hE2'.size, rfl, by simp⟩
  clear hkw ho2 hkh2 ho hkh hm4 hmod4 hk4 hc3 hk2 hE hE4
  generalize W2.heap.size = wb at hS0 ⊢
  generalize W2.alloc (.cells (wordsA (List.replicate 64 0)) 120) = W3 at hS0 hE3' ⊢
  refine rounds1 (σ := BlkSt) (fun s => .int .i64 ((64 * s.n : Nat) : Int)) (fun s W => s.n ≤ m.length / 64 ∧ ShSt w1 W mv2 w1.heap.size wb m (blocksF m s.n).l s.ws ∧ ∀ x ∈ s.ws, x < 4294967296) (fun s _ => m.length / 64 - s.n) ⟨0, List.replicate 64 0⟩ rfl ⟨Nat.zero_le _, hS0, by intro x hx; simp at hx; omega⟩ ?_
  rintro next3 ⟨n, ws⟩ W4 ⟨hn, hS, hx⟩ hnext _
  simp only at hn hS hx ⊢
  refine hS.m.row.len u_bytes ?_
  rw [bytesV_length]
  refine does_lt (condP_of (fun hlt => ?_) fun hge => ?_)
  · have hnl : 64 * n + 64 ≤ m.length := by simp at hlt; omega
    refine fill_loop (m.drop (64 * n)) hS hx (fun next4 i ws W hi hS hK => ?_) (fun next4 ws W hS hx h16 => ?_)
    · intro _
      refine does_lt (condP_of (fun _ => ?_) fun hge => absurd hge (by simp; omega))
      refine does_of (run_mul64 (a := 4) (b := i) (by omega) W) (does_add (by omega) (by omega) ?_)
      rw [show ((64 * n : Nat) : Int) + ((4 * i : Nat) : Int) = ((64 * n + 4 * i : Nat) : Int) by omega]
      refine region72_19 (p := 64 * n + 4 * i) hS (by omega) (by omega) (by omega) fun W' hW' _ => does_add (by omega) (by omega) ?_
      rw [show ((i : Nat) : Int) + 1 = ((i + 1 : Nat) : Int) by omega]
      refine hK W' ?_
      rw [getD_drop8, getD_drop8, getD_drop8, getD_drop8]
      exact hW'
    intro _
    refine does_lt (condP_of (fun h => absurd h (by simp)) fun _ => ?_)
    refine ext_loop (m.drop (64 * n)) hS hx h16 (fun next5 i ws W h1 hi hS hx hK => ?_) (fun next5 W hS => ?_)
    · intro _
      refine does_lt (condP_of (fun _ => ?_) fun hge => absurd hge (by simp; omega))
      refine region72_23 hS hi h1 hx fun W1 e1 _ => region72_24 (hS.ext e1) hi h1 hx fun W2 e2 _ => region72_25 ((hS.ext e1).ext e2) hi h1 fun W3 hS3 _ => does_add (by omega) (by omega) ?_
      rw [show ((i : Nat) : Int) + 1 = ((i + 1 : Nat) : Int) by omega]
      exact hK W3 hS3
    intro _
    refine does_lt (condP_of (fun h => absurd h (by simp)) fun _ => ?_)
    have eA := ext_any (.cells (wordsA (List.replicate 8 0)) 123) W
    have hvk : Kp W.heap.size (wordsA (List.replicate 8 0)) 123 (W.alloc (.cells (wordsA (List.replicate 8 0)) 123)) := heap_alloc_new W _
    have hgv := hS.e.size
    have hSA := hS.ext eA
    refine does_of (run_allocV W) ?_
    generalize W.heap.size = vb at hvk hgv ⊢
    generalize W.alloc (.cells (wordsA (List.replicate 8 0)) 123) = WA at hvk hSA ⊢
    obtain ⟨r, WB, hcopy, hvB, hmB⟩ := copy_V (ty := 3) hvk rfl hSA.kh
    refine does_of (run_sliceV vb WA) (does_of hcopy ?_)
    have hSB := hSA.other hvk hgv hmB
    clear hcopy hmB hSA hvk eA hS
    refine rounds_spec (K := fun _ => True) hSB hkv (sched_lt _) hvB hgv (blocksF_ok m n) (fun next6 i v W hi hS hv hok hK => ?_) (fun next6 W hS hv => ?_)
    · intro _
      refine does_lt (condP_of (fun _ => ?_) fun hge => absurd hge (by simp; omega))
      refine region72_31 hv hok fun W1 e1 _ => ?_
      have hv1 := hv.ext e1
      have hS1 := hS.ext e1
      have L1 : ∀ i, i < 8 → (Instr.loadAt 120 (.pointer (some ⟨vb, i, none⟩))).run Try.prog W1 = .ok (u32V (v.l.getD i 0)) W1 := fun i hi => hv1.word (by rw [octW]; exact hi)
      have Le : (Instr.loadAt 120 (.pointer (some ⟨vb, 4, none⟩))).run Try.prog W1 = .ok (u32V v.e) W1 := L1 4 (by omega)
      have Lf : (Instr.loadAt 120 (.pointer (some ⟨vb, 5, none⟩))).run Try.prog W1 = .ok (u32V v.f) W1 := L1 5 (by omega)
      have Lg : (Instr.loadAt 120 (.pointer (some ⟨vb, 6, none⟩))).run Try.prog W1 = .ok (u32V v.g) W1 := L1 6 (by omega)
      refine does_of (run_vAt (i := 4) (by omega) W1) (does_of Le (does_of (run_vAt (i := 5) (by omega) W1) (does_of Lf (does_of (run_and32 hok.e hok.f W1) ?_))))
      refine does_of (run_vAt (i := 4) (by omega) W1) (does_of Le (does_of (run_not32 hok.e W1) (does_of (run_vAt (i := 6) (by omega) W1) (does_of Lg (does_of (run_and32 (not_lt hok.e) hok.g W1) ?_)))))
      refine does_of (run_xor32 (and_lt hok.e) (and_lt (not_lt hok.e)) W1) ?_
      refine region72_33' hS1 hv1 hkv hi fun W2 e2 _ => ?_
      refine region72_34 (hv1.ext e2) hok fun W3 e3 _ => ?_
      have hv3 := (hv1.ext e2).ext e3
      have hS3 := (hS1.ext e2).ext e3
      have L3 : ∀ i, i < 8 → (Instr.loadAt 120 (.pointer (some ⟨vb, i, none⟩))).run Try.prog W3 = .ok (u32V (v.l.getD i 0)) W3 := fun i hi => hv3.word (by rw [octW]; exact hi)
      have La : (Instr.loadAt 120 (.pointer (some ⟨vb, 0, none⟩))).run Try.prog W3 = .ok (u32V v.a) W3 := L3 0 (by omega)
      have Lb : (Instr.loadAt 120 (.pointer (some ⟨vb, 1, none⟩))).run Try.prog W3 = .ok (u32V v.b) W3 := L3 1 (by omega)
      have Lc : (Instr.loadAt 120 (.pointer (some ⟨vb, 2, none⟩))).run Try.prog W3 = .ok (u32V v.c) W3 := L3 2 (by omega)
      have Ld : (Instr.loadAt 120 (.pointer (some ⟨vb, 3, none⟩))).run Try.prog W3 = .ok (u32V v.d) W3 := L3 3 (by omega)
      have Le : (Instr.loadAt 120 (.pointer (some ⟨vb, 4, none⟩))).run Try.prog W3 = .ok (u32V v.e) W3 := L3 4 (by omega)
      have Lf : (Instr.loadAt 120 (.pointer (some ⟨vb, 5, none⟩))).run Try.prog W3 = .ok (u32V v.f) W3 := L3 5 (by omega)
      have Lg : (Instr.loadAt 120 (.pointer (some ⟨vb, 6, none⟩))).run Try.prog W3 = .ok (u32V v.g) W3 := L3 6 (by omega)
      refine does_of (run_vAt (i := 0) (by omega) W3) (does_of La (does_of (run_vAt (i := 1) (by omega) W3) (does_of Lb (does_of (run_and32 hok.a hok.b W3) ?_))))
      refine does_of (run_vAt (i := 0) (by omega) W3) (does_of La (does_of (run_vAt (i := 2) (by omega) W3) (does_of Lc (does_of (run_and32 hok.a hok.c W3) ?_))))
      refine does_of (run_xor32 (and_lt hok.a) (and_lt hok.a) W3) ?_
      refine does_of (run_vAt (i := 1) (by omega) W3) (does_of Lb (does_of (run_vAt (i := 2) (by omega) W3) (does_of Lc (does_of (run_and32 hok.b hok.c W3) ?_))))
      refine does_of (run_xor32 (xor_lt (and_lt hok.a) (and_lt hok.a)) (and_lt hok.b) W3) ?_
      refine does_of (run_add32 _ _ W3) (does_of (run_add32 _ _ W3) ?_)
      refine does_of (run_vAt (i := 0) (by omega) W3) (does_of La (does_of (run_vAt (i := 1) (by omega) W3) (does_of Lb ?_)))
      refine does_of (run_vAt (i := 2) (by omega) W3) (does_of Lc (does_of (run_vAt (i := 3) (by omega) W3) (does_of Ld (does_of (run_add32 _ _ W3) ?_))))
      refine does_of (run_vAt (i := 4) (by omega) W3) (does_of Le (does_of (run_vAt (i := 5) (by omega) W3) (does_of Lf (does_of (run_vAt (i := 6) (by omega) W3) (does_of Lg ?_)))))
      refine does_of (run_buildV (rnd (kK.getD i 0) ((sched (m.drop (64 * n))).getD i 0) v) W3) ?_
      obtain ⟨W5, hst, hv5, hm5⟩ := store_V (v := rnd (kK.getD i 0) ((sched (m.drop (64 * n))).getD i 0) v) hv3 (octW v)
      refine does_of hst (does_add (by omega) (by omega) ?_)
      rw [show ((i : Nat) : Int) + 1 = ((i + 1 : Nat) : Int) by omega]
      exact hK W5 (hS3.other hv3 hgv hm5) hv5
    intro _
    refine does_lt (condP_of (fun h => absurd h (by simp)) fun _ => ?_)
    refine add_loop (blocksF m n) _ hS hv (fun next7 i hl W hi hS hv hK => ?_) (fun next7 W hS => ?_)
    · intro _
      refine does_lt (condP_of (fun _ => ?_) fun hge => absurd hge (by simp; omega))
      refine region72_40 hS hv hgv hi fun W' g1 g2 _ => does_add (by omega) (by omega) ?_
      rw [show ((i : Nat) : Int) + 1 = ((i + 1 : Nat) : Int) by omega]
      exact hK W' g1 g2
    intro _
    refine does_lt (condP_of (fun h => absurd h (by simp)) fun _ => ?_)
    refine does_add (by omega) (by omega) ?_
    exact hnext ⟨n + 1, _⟩ _ W rfl ⟨by simp only; omega, hS, sched_lt _⟩ (by simp only; omega)
  have hnn : n = m.length / 64 := by simp at hge; omega
  rw [hnn] at hS
  refine out_loop (R := fun _ _ => True) (v := blocksF m (m.length / 64)) hS.e hS.kh (fun next8 i ov l W hi hE hk ho hl hK => ?_) (fun next8 ov W hE ho => ?_)
  · intro _
    refine does_lt (condP_of (fun _ => ?_) fun hge => absurd hge (by simp; omega))
    refine region72_45 hE hk (octW _) hi ho (by omega) fun v' W' g1 g2 g3 _ => does_add (by omega) (by omega) ?_
    rw [show ((i : Nat) : Int) + 1 = ((i + 1 : Nat) : Int) by omega]
    exact hK v' W' g1 g2 g3
  intro _
  refine does_lt (condP_of (fun h => absurd h (by simp)) fun _ => ?_)
  have hsl : sumL l = (blocksF m (m.length / 64)).l.flatMap out4 := by unfold sumL; rw [hpm]
  rw [hsl]
  exact goal W hE ov ho
end Go.Proofs.Ytcncgkkilgmphaa
