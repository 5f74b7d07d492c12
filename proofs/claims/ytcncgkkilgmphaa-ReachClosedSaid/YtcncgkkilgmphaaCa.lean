/-
  Contract: marref1.ID, the source of objects; what can be reached.
-/
import Derived.Test.YtcncgkkilgmphaaSg
set_option linter.unusedVariables false
set_option linter.unusedSimpArgs false
namespace Go.Proofs.Ytcncgkkilgmphaa
open Go Go.RowKit

/-! ### the plain law -/
def srcF (ls : List (List UInt8)) (x : ByteArray) : Option (List UInt8) := ls.find? fun l => decide (idOf l = x)
open Classical in
noncomputable def decO (l : List UInt8) : Option Ob := if h : ∃ o, May o ∧ enc o = l then some h.choose else none
theorem decO_none {l : List UInt8} : decO l = none ↔ ∀ o, May o → enc o ≠ l := by
  unfold decO
  split
  · rename_i h
    simp only [reduceCtorEq, false_iff]
    intro hn
    obtain ⟨o, h1, h2⟩ := h
    exact hn o h1 h2
  · rename_i h
    simp only [true_iff]
    exact fun o h1 h2 => h ⟨o, h1, h2⟩
theorem decO_of {o : Ob} (h : May o) : decO (enc o) = some o := by
  unfold decO
  have hx : ∃ o', May o' ∧ enc o' = enc o := ⟨o, h, rfl⟩
  rw [dif_pos hx]
  rw [enc_inj hx.choose_spec.1 h hx.choose_spec.2]
theorem decO_some {l : List UInt8} {o : Ob} (h : decO l = some o) : May o ∧ enc o = l := by
  unfold decO at h
  split at h
  · rename_i hx
    cases h
    exact hx.choose_spec
  · cases h
noncomputable def getO (ls : List (List UInt8)) (x : ByteArray) : Option Ob := (srcF ls x).bind decO
inductive Rch (ls : List (List UInt8)) (a : List ByteArray) : ByteArray → Prop
  | start {x : ByteArray} : x ∈ a → Rch ls a x
  | step {x y : ByteArray} {o : Ob} : Rch ls a x → getO ls x = some o → y ∈ refsOf o → Rch ls a y
theorem srcF_mem {ls : List (List UInt8)} {x : ByteArray} {l : List UInt8} (h : srcF ls x = some l) : l ∈ ls := List.mem_of_find?_eq_some h
/-! ### rows of bytes -/
def RowsB (w : World) (v : Value) (ls : List (List UInt8)) : Prop := ∃ vs, Row w v vs ∧ vs.length = ls.length ∧ ∀ i (h : i < vs.length) (h' : i < ls.length), Row w vs[i] (bytesV ls[i])
theorem RowsB.ext {w w' : World} {v : Value} {ls : List (List UInt8)} (h : RowsB w v ls) (hE : Ext w w') : RowsB w' v ls := by
  obtain ⟨vs, h1, h2, h3⟩ := h
  exact ⟨vs, h1.ext hE, h2, fun i a b => (h3 i a b).ext hE⟩
theorem u_rows : Try.prog.underlying 22 = some (.slice 34) := by kernel_rfl
theorem sz_bytesl (w : World) : (sizeOf 34).run Try.prog w = .ok 1 w := by kernel_rfl
theorem agg_rows (w : World) : (isAgg 22).run Try.prog w = .ok false w := by kernel_rfl
theorem sz_strsl (w : World) : (sizeOf 23).run Try.prog w = .ok 1 w := by kernel_rfl
theorem id_spec {w : World} {v : Value} {l : List UInt8} (hr : Row w v (bytesV l)) (hl : l.length ≤ 1048576) : Call Try.prog 44 #[v] w fun r w' => r = .string (idOf l) ∧ Ext w w' := by
  apply vc44
  unfold V44
  refine (sum_spec hr hl).mono fun s w1 ⟨h1, hE1⟩ => (rhex_spec h1.row (by rw [sumL_length]; omega)).mono fun r w2 ⟨hr, hE2⟩ => ⟨hr, hE1.trans hE2⟩
theorem Own.neO {W : World} {base b : Nat} {e t : TypeId} {v : Value} {xs : List Value} {cs : Array Value} (h : Own W base e v xs) (hk : Kp b cs t W) (ht : t ≠ e) : v.ownBlock = none ∨ v.ownBlock ≠ some b := by
  cases hv : v.ownBlock with
  | none => exact .inl rfl
  | some g =>
    refine .inr fun e' => ht ?_
    cases e'
    obtain ⟨cur, hc⟩ := h.block' b hv
    unfold Kp at hk
    rw [hc] at hk
    cases hk
    rfl
/-- a source: what Source hands back -/
structure IsSrc (w : World) (fv : Value) (ls : List (List UInt8)) (lie : Bool) (base lb eb ib : Nat) (lv sv : Value) : Prop where
  fv : fv = .func (.func 45) #[] #[.pointer (some ⟨lb, 0, none⟩), .pointer (some ⟨eb, 0, none⟩), .pointer (some ⟨ib, 0, none⟩)]
  l : Kp lb #[lv] 22 w
  e : Kp eb #[.bool lie] 4 w
  i : Kp ib #[sv] 23 w
  rows : RowsB w lv ls
  ids : Own w base 9 sv (strsV (ls.map idOf))
  gl : base ≤ lb
  ge : base ≤ eb
  gi : base ≤ ib
theorem IsSrc.ext {w w' : World} {fv : Value} {ls : List (List UInt8)} {lie : Bool} {base lb eb ib : Nat} {lv sv : Value} (h : IsSrc w fv ls lie base lb eb ib lv sv) (hE : Ext w w') : IsSrc w' fv ls lie base lb eb ib lv sv :=
  ⟨h.fv, h.l.ext hE, h.e.ext hE, h.i.ext hE, h.rows.ext hE, h.ids.ext hE, h.gl, h.ge, h.gi⟩
structure SrcSt where
  i : Nat
  sv : Value
section
variable {w : World}
def StS (w0 : World) (lb eb ib : Nat) (lv sv : Value) (lie : Bool) (xs : List ByteArray) (y : ByteArray) (k : Nat) (W : World) : Prop :=
  Kp lb #[lv] 22 W ∧ Kp eb #[.bool lie] 4 W ∧ (k < 2 → Kp ib #[sv] 23 W) ∧ (k = 0 → Own W w0.heap.size 9 sv (strsV xs)) ∧ (k = 2 → ∃ sv', Kp ib #[sv'] 23 W ∧ Own W w0.heap.size 9 sv' (strsV (xs ++ [y])))
theorem StS.ext {w0 W W' : World} {lb eb ib : Nat} {lv sv : Value} {lie : Bool} {xs : List ByteArray} {y : ByteArray} {k : Nat} (h : StS w0 lb eb ib lv sv lie xs y k W) (hE : Ext W W') : StS w0 lb eb ib lv sv lie xs y k W' :=
  ⟨h.1.ext hE, h.2.1.ext hE, fun hk => (h.2.2.1 hk).ext hE, fun hk => (h.2.2.2.1 hk).ext hE, fun hk => let ⟨s, h1, h2⟩ := h.2.2.2.2 hk; ⟨s, h1.ext hE, h2.ext hE⟩⟩
theorem region9_5 {w0 W : World} {lb eb ib i : Nat} {lv sv : Value} {lie : Bool} {ls : List (List UInt8)} {xs : List ByteArray} {J : VF 0} (hE : Ext w0 W) (hR : RowsB w0 lv ls) (hi : i < ls.length) (hll : ls[i].length ≤ 1048576) (hxs : xs.length ≤ 1048576)
    (hne : lb ≠ ib ∧ eb ≠ ib) (hge : w0.heap.size ≤ ib)
    (hS : StS w0 lb eb ib lv sv lie xs (idOf ls[i]) 0 W) (hJ : ∀ W' sv', Ext w0 W' → Kp lb #[lv] 22 W' → Kp eb #[.bool lie] 4 W' → Kp ib #[sv'] 23 W' → Own W' w0.heap.size 9 sv' (strsV (xs ++ [idOf ls[i]])) → J W') :
    DrawP Try.prog 22 (opsOf Try.f9 5) [2, 5, 6] [.pointer (some ⟨lb, 0, none⟩), .pointer (some ⟨ib, 0, none⟩), .int .i64 i] [] J W := by
  obtain ⟨vs, hr, hvl, hvr⟩ := hR
  have hi' : i < vs.length := by omega
  refine h9_5 w0 (StS w0 lb eb ib lv sv lie xs (idOf ls[i])) (fun _ t _ => t = .string (idOf ls[i])) (fun k t W => k = 0 → Row W t (strsV [idOf ls[i]])) (fun k t W => k = 1 → Own W w0.heap.size 9 t (strsV (xs ++ [idOf ls[i]]))) hE
    (fun k => FSt.const _) (fun k v W W' hE h hk => (h hk).ext hE) (fun k v W W' hE h hk => (h hk).ext hE) (hS.ext (Ext.drawn W)) ?_
  have hC : ∀ {hi' : Nat} {W'}, Stg w0 W (StS w0 lb eb ib lv sv lie xs (idOf ls[i])) 0 hi' W' → Kp lb #[lv] 22 W' ∧ Ext w0 W' := fun hS => by
    obtain ⟨hA, k', _, _, hC⟩ := hS
    exact ⟨hC.1, hA.2⟩
  obtain ⟨va, vc, hv, hvl', hvc⟩ := id hr
  refine qc (v := sv) (fun W' hS => ?_) (qc (v := lv) (fun W' hS => run_load1 agg_rows ((hC hS).1.cell rfl)) ?_)
  · obtain ⟨hA, k', _, hk', hC⟩ := hS
    exact run_load1 agg_strsl ((hC.2.2.1 (by omega)).cell rfl)
  obtain ⟨ad, had, hcell⟩ := hvc i vs[i] (by simp [hi'])
  refine qx (v := .pointer (some (ad.add i))) (fun W' => ?_) (qc (v := vs[i]) (fun W' hS => run_load1 agg_bytes ((hC hS).2.cell hcell)) ⟨?_, ?_, ?_, ?_, ?_⟩)
  · subst had
    rw [hv]
    have he : Try.prog.elem 22 = 34 := by simp [Program.elem, u_rows]
    rw [run_indexAt_slice (h := by rw [he]; exact u_rows), if_pos ⟨by omega, by omega⟩, he, sz_bytesl]
    simp only [Result.andThen_ok, Nat.mul_one, Int.toNat_natCast]
  · intro W1 hA hc
    exact (id_spec ((hvr i hi' hi).ext hA.2) hll).mono fun r W2 ⟨g1, g2⟩ => ⟨g2, hc.ext g2, g1⟩
  · rintro t W1 hA hc rfl
    exact does_of (run_one_str _ W1) ⟨ext_any _ W1, hc.ext (ext_any _ W1), fun _ => (own_one_str _ W1).row⟩
  · intro t W1 hA hc hF
    have ho := hc.2.2.2.1 rfl
    refine ho.pushS hA.2 (hF rfl) (by simp; omega) fun v' W2 g1 g2 g3 => ⟨⟨g3.size, g2⟩, ⟨hc.1.mod g3 (ho.neK hc.1 (by decide)), hc.2.1.mod g3 (ho.neK hc.2.1 (by decide)), fun _ => (hc.2.2.1 (by omega)).mod g3 (ho.neK (hc.2.2.1 (by omega)) (by decide)), vac (by omega), vac (by omega)⟩, fun _ => g1, fun v h => h, fun _ => vac (by omega), trivial⟩
  · intro t W1 hA hc hF
    have hk := hc.2.2.1 (by omega)
    have ho := hF rfl
    have hm := Mod.setCell W1 ib 0 t
    obtain ⟨ta, tc, htv⟩ := ho.slice
    refine does_of (run_store1 sz_strsl (by rw [htv]; rfl) (by rw [htv]; rfl) (hk.cell rfl) hk.frozen) ⟨⟨hm.size, Mod.ext hA.2 hm fun k hk => by cases hk; exact hge⟩, ⟨hc.1.mod hm fun e => hne.1 (by cases e; rfl), hc.2.1.mod hm fun e => hne.2 (by cases e; rfl), by omega, vac (by omega), fun _ => ⟨t, hk.set t, hm.own ho (ho.neO hk (by decide))⟩⟩, trivial, fun v h => h, fun v => fun _ => vac (by omega), fun _ => vac (by omega), trivial⟩
  · intro W1 hA hc
    obtain ⟨sv', h1, h2⟩ := hc.2.2.2.2 rfl
    exact hJ W1 sv' hA.2 hc.1 hc.2.1 h1 h2
theorem run_boxRows {a : Option Addr} {n c : Nat} (w : World) : (Instr.box 22 (.slice a n c)).run Try.prog w = .ok (.pointer (some ⟨w.heap.size, 0, none⟩)) (w.alloc (.cells #[.slice a n c] 22)) := by simp [go_sem, Instr.box]
theorem run_boxLie (b : Bool) (w : World) : (Instr.box 4 (.bool b)).run Try.prog w = .ok (.pointer (some ⟨w.heap.size, 0, none⟩)) (w.alloc (.cells #[.bool b] 4)) := by simp [go_sem, Instr.box]
theorem run_allocIds (w : World) : (Instr.alloc 23 true (.tuple #[])).run Try.prog w = .ok (.pointer (some ⟨w.heap.size, 0, none⟩)) (w.alloc (.cells #[.slice none 0 0] 23)) := by kernel_rfl
theorem source_spec {lv : Value} {ls : List (List UInt8)} {lie : Bool} (hr : RowsB w lv ls) (hll : ∀ l ∈ ls, l.length ≤ 1048576) (hln : ls.length ≤ 1048576) :
    Call Try.prog 9 #[lv, .bool lie] w fun fv w' => Ext w w' ∧ ∃ lb eb ib sv, IsSrc w' fv ls lie w.heap.size lb eb ib lv sv := by
  apply vc9
  unfold V9
  obtain ⟨vs, hr1, hvl, hvr⟩ := id hr
  obtain ⟨va, vc, hv⟩ := hr1.slice
  have e1 := ext_any (.cells #[lv] 22) w
  have k1 : Kp w.heap.size #[lv] 22 (w.alloc (.cells #[lv] 22)) := heap_alloc_new w _
  refine does_of (by rw [hv]; exact run_boxRows w) ?_
  rw [← hv]
  generalize hw1 : w.alloc (.cells #[lv] 22) = w1 at e1 k1 ⊢
  have e2 := ext_any (.cells #[.bool lie] 4) w1
  have k2 : Kp w1.heap.size #[.bool lie] 4 (w1.alloc (.cells #[.bool lie] 4)) := heap_alloc_new w1 _
  refine does_of (run_boxLie lie w1) ?_
  have n12 := k1.lt
  have l1 := k1.ext e2
  generalize hw2 : w1.alloc (.cells #[.bool lie] 4) = w2 at e2 k2 l1 ⊢
  have e3 := ext_any (.cells #[.slice none 0 0] 23) w2
  have k3 : Kp w2.heap.size #[.slice none 0 0] 23 (w2.alloc (.cells #[.slice none 0 0] 23)) := heap_alloc_new w2 _
  refine does_of (run_allocIds w2) ?_
  have n13 := l1.lt
  have n23 := k2.lt
  have hg1 := e1.size
  have hg2 := e2.size
  have E := (e1.trans e2).trans e3
  have hl := l1.ext e3
  have he := k2.ext e3
  generalize w2.alloc (.cells #[.slice none 0 0] 23) = w3 at e3 k3 E hl he ⊢
  refine rounds1 (σ := SrcSt) (fun s => .int .i64 ((s.i : Nat) : Int)) (fun s W => s.i ≤ ls.length ∧ Ext w W ∧ Kp w.heap.size #[lv] 22 W ∧ Kp w1.heap.size #[.bool lie] 4 W ∧ Kp w2.heap.size #[s.sv] 23 W ∧ Own W w.heap.size 9 s.sv (strsV ((ls.take s.i).map idOf))) (fun s _ => ls.length - s.i) ⟨0, .slice none 0 0⟩ rfl ⟨Nat.zero_le _, E, hl, he, k3, Own.nil _ _ _⟩ ?_
  rintro next ⟨i, sv⟩ W ⟨hi, hE, h1, h2, h3, ho⟩ hnext _
  simp only at hi h3 ho ⊢
  refine does_load1 agg_rows (h1.cell rfl) (hr1.len u_rows ?_)
  rw [hvl]
  refine does_lt (condP_of (fun hlt => ?_) fun hge => ?_)
  · have hlt : i < ls.length := by simpa using hlt
    refine region9_5 (ls := ls) (lie := lie) (xs := (ls.take i).map idOf) hE hr hlt (hll _ (List.getElem_mem hlt)) (by simp; omega) ⟨by omega, by omega⟩ (by omega) ⟨h1, h2, fun _ => h3, fun _ => ho, vac (by omega)⟩ fun W' sv' g1 g2 g3 g4 g5 _ => does_add (by omega) (by omega) (hnext ⟨i + 1, sv'⟩ _ W' rfl ⟨hlt, g1, g2, g3, g4, ?_⟩ (by simp only; omega))
    simp only
    rw [List.take_succ_eq_append_getElem hlt, List.map_append]
    exact g5
  · have : i = ls.length := by simp at hge; omega
    subst this
    rw [List.take_length] at ho
    exact ⟨hE, _, _, _, sv, rfl, h1, h2, h3, hr.ext hE, ho, by omega, by omega, by omega⟩
end
end Go.Proofs.Ytcncgkkilgmphaa
