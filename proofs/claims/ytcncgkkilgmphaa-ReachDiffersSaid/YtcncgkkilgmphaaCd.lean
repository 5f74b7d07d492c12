/-
  Contract: marref1.ID, the source of objects; what can be reached.
  Contract: the source asked, reach.Source.object.
  Contract: reach.Closure.
  Contract: reach.Closure: the walk.
-/
import Derived.Test.YtcncgkkilgmphaaSg
import Derived.Test.YtcncgkkilgmphaaMp
import Derived.Test.YtcncgkkilgmphaaTy
set_option linter.unusedVariables false
set_option linter.unusedSimpArgs false
namespace Go.Proofs.Ytcncgkkilgmphaa
open Go Go.RowKit

/-! ### the plain law -/
def srcF (ls : List (List UInt8)) (x : ByteArray) : Option (List UInt8) := ls.find? fun l => decide (idOf l = x)
open Classical in
noncomputable def decO (l : List UInt8) : Option Ob := if h : ∃ o, May o ∧ enc o = l then some h.choose else none
theorem decO_none {l : List UInt8} : decO l = none ↔ ∀ o, May o → enc o ≠ l := by
  unfold decO
  split
  · rename_i h
    simp only [reduceCtorEq, false_iff]
    intro hn
    obtain ⟨o, h1, h2⟩ := h
    exact hn o h1 h2
  · rename_i h
    simp only [true_iff]
    exact fun o h1 h2 => h ⟨o, h1, h2⟩
theorem decO_of {o : Ob} (h : May o) : decO (enc o) = some o := by
  unfold decO
  have hx : ∃ o', May o' ∧ enc o' = enc o := ⟨o, h, rfl⟩
  rw [dif_pos hx]
  rw [enc_inj hx.choose_spec.1 h hx.choose_spec.2]
theorem decO_some {l : List UInt8} {o : Ob} (h : decO l = some o) : May o ∧ enc o = l := by
  unfold decO at h
  split at h
  · rename_i hx
    cases h
    exact hx.choose_spec
  · cases h
noncomputable def getO (ls : List (List UInt8)) (x : ByteArray) : Option Ob := (srcF ls x).bind decO
inductive Rch (ls : List (List UInt8)) (a : List ByteArray) : ByteArray → Prop
  | start {x : ByteArray} : x ∈ a → Rch ls a x
  | step {x y : ByteArray} {o : Ob} : Rch ls a x → getO ls x = some o → y ∈ refsOf o → Rch ls a y
theorem srcF_mem {ls : List (List UInt8)} {x : ByteArray} {l : List UInt8} (h : srcF ls x = some l) : l ∈ ls := List.mem_of_find?_eq_some h
/-! ### rows of bytes -/
def RowsB (w : World) (v : Value) (ls : List (List UInt8)) : Prop := ∃ vs, Row w v vs ∧ vs.length = ls.length ∧ ∀ i (h : i < vs.length) (h' : i < ls.length), Row w vs[i] (bytesV ls[i])
theorem RowsB.ext {w w' : World} {v : Value} {ls : List (List UInt8)} (h : RowsB w v ls) (hE : Ext w w') : RowsB w' v ls := by
  obtain ⟨vs, h1, h2, h3⟩ := h
  exact ⟨vs, h1.ext hE, h2, fun i a b => (h3 i a b).ext hE⟩
theorem u_rows : Try.prog.underlying 22 = some (.slice 34) := by kernel_rfl
theorem sz_bytesl (w : World) : (sizeOf 34).run Try.prog w = .ok 1 w := by kernel_rfl
theorem agg_rows (w : World) : (isAgg 22).run Try.prog w = .ok false w := by kernel_rfl
theorem sz_strsl (w : World) : (sizeOf 23).run Try.prog w = .ok 1 w := by kernel_rfl
theorem id_spec {w : World} {v : Value} {l : List UInt8} (hr : Row w v (bytesV l)) (hl : l.length ≤ 1048576) : Call Try.prog 44 #[v] w fun r w' => r = .string (idOf l) ∧ Ext w w' := by
  apply vc44
  unfold V44
  refine (sum_spec hr hl).mono fun s w1 ⟨h1, hE1⟩ => (rhex_spec h1.row (by rw [sumL_length]; omega)).mono fun r w2 ⟨hr, hE2⟩ => ⟨hr, hE1.trans hE2⟩
theorem Own.neO {W : World} {base b : Nat} {e t : TypeId} {v : Value} {xs : List Value} {cs : Array Value} (h : Own W base e v xs) (hk : Kp b cs t W) (ht : t ≠ e) : v.ownBlock = none ∨ v.ownBlock ≠ some b := by
  cases hv : v.ownBlock with
  | none => exact .inl rfl
  | some g =>
    refine .inr fun e' => ht ?_
    cases e'
    obtain ⟨cur, hc⟩ := h.block' b hv
    unfold Kp at hk
    rw [hc] at hk
    cases hk
    rfl
/-- a source: what Source hands back -/
structure IsSrc (w : World) (fv : Value) (ls : List (List UInt8)) (lie : Bool) (base lb eb ib : Nat) (lv sv : Value) : Prop where
  fv : fv = .func (.func 45) #[] #[.pointer (some ⟨lb, 0, none⟩), .pointer (some ⟨eb, 0, none⟩), .pointer (some ⟨ib, 0, none⟩)]
  l : Kp lb #[lv] 22 w
  e : Kp eb #[.bool lie] 4 w
  i : Kp ib #[sv] 23 w
  rows : RowsB w lv ls
  ids : Own w base 9 sv (strsV (ls.map idOf))
  gl : base ≤ lb
  ge : base ≤ eb
  gi : base ≤ ib
theorem IsSrc.ext {w w' : World} {fv : Value} {ls : List (List UInt8)} {lie : Bool} {base lb eb ib : Nat} {lv sv : Value} (h : IsSrc w fv ls lie base lb eb ib lv sv) (hE : Ext w w') : IsSrc w' fv ls lie base lb eb ib lv sv :=
  ⟨h.fv, h.l.ext hE, h.e.ext hE, h.i.ext hE, h.rows.ext hE, h.ids.ext hE, h.gl, h.ge, h.gi⟩
structure SrcSt where
  i : Nat
  sv : Value
section
variable {w : World}
def StS (w0 : World) (lb eb ib : Nat) (lv sv : Value) (lie : Bool) (xs : List ByteArray) (y : ByteArray) (k : Nat) (W : World) : Prop :=
  Kp lb #[lv] 22 W ∧ Kp eb #[.bool lie] 4 W ∧ (k < 2 → Kp ib #[sv] 23 W) ∧ (k = 0 → Own W w0.heap.size 9 sv (strsV xs)) ∧ (k = 2 → ∃ sv', Kp ib #[sv'] 23 W ∧ Own W w0.heap.size 9 sv' (strsV (xs ++ [y])))
theorem StS.ext {w0 W W' : World} {lb eb ib : Nat} {lv sv : Value} {lie : Bool} {xs : List ByteArray} {y : ByteArray} {k : Nat} (h : StS w0 lb eb ib lv sv lie xs y k W) (hE : Ext W W') : StS w0 lb eb ib lv sv lie xs y k W' :=
  ⟨h.1.ext hE, h.2.1.ext hE, fun hk => (h.2.2.1 hk).ext hE, fun hk => (h.2.2.2.1 hk).ext hE, fun hk => let ⟨s, h1, h2⟩ := h.2.2.2.2 hk; ⟨s, h1.ext hE, h2.ext hE⟩⟩
theorem region9_5 {w0 W : World} {lb eb ib i : Nat} {lv sv : Value} {lie : Bool} {ls : List (List UInt8)} {xs : List ByteArray} {J : VF 0} (hE : Ext w0 W) (hR : RowsB w0 lv ls) (hi : i < ls.length) (hll : ls[i].length ≤ 1048576) (hxs : xs.length ≤ 1048576)
    (hne : lb ≠ ib ∧ eb ≠ ib) (hge : w0.heap.size ≤ ib)
    (hS : StS w0 lb eb ib lv sv lie xs (idOf ls[i]) 0 W) (hJ : ∀ W' sv', Ext w0 W' → Kp lb #[lv] 22 W' → Kp eb #[.bool lie] 4 W' → Kp ib #[sv'] 23 W' → Own W' w0.heap.size 9 sv' (strsV (xs ++ [idOf ls[i]])) → J W') :
    DrawP Try.prog 22 (opsOf Try.f9 5) [2, 5, 6] [.pointer (some ⟨lb, 0, none⟩), .pointer (some ⟨ib, 0, none⟩), .int .i64 i] [] J W := by
  obtain ⟨vs, hr, hvl, hvr⟩ := hR
  have hi' : i < vs.length := by omega
  refine h9_5 w0 (StS w0 lb eb ib lv sv lie xs (idOf ls[i])) (fun _ t _ => t = .string (idOf ls[i])) (fun k t W => k = 0 → Row W t (strsV [idOf ls[i]])) (fun k t W => k = 1 → Own W w0.heap.size 9 t (strsV (xs ++ [idOf ls[i]]))) hE
    (fun k => FSt.const _) (fun k v W W' hE h hk => (h hk).ext hE) (fun k v W W' hE h hk => (h hk).ext hE) (hS.ext (Ext.drawn W)) ?_
  have hC : ∀ {hi' : Nat} {W'}, Stg w0 W (StS w0 lb eb ib lv sv lie xs (idOf ls[i])) 0 hi' W' → Kp lb #[lv] 22 W' ∧ Ext w0 W' := fun hS => by
    obtain ⟨hA, k', _, _, hC⟩ := hS
    exact ⟨hC.1, hA.2⟩
  obtain ⟨va, vc, hv, hvl', hvc⟩ := id hr
  refine qc (v := sv) (fun W' hS => ?_) (qc (v := lv) (fun W' hS => run_load1 agg_rows ((hC hS).1.cell rfl)) ?_)
  · obtain ⟨hA, k', _, hk', hC⟩ := hS
    exact run_load1 agg_strsl ((hC.2.2.1 (by omega)).cell rfl)
  obtain ⟨ad, had, hcell⟩ := hvc i vs[i] (by simp [hi'])
  refine qx (v := .pointer (some (ad.add i))) (fun W' => ?_) (qc (v := vs[i]) (fun W' hS => run_load1 agg_bytes ((hC hS).2.cell hcell)) ⟨?_, ?_, ?_, ?_, ?_⟩)
  · subst had
    rw [hv]
    have he : Try.prog.elem 22 = 34 := by simp [Program.elem, u_rows]
    rw [run_indexAt_slice (h := by rw [he]; exact u_rows), if_pos ⟨by omega, by omega⟩, he, sz_bytesl]
    simp only [Result.andThen_ok, Nat.mul_one, Int.toNat_natCast]
  · intro W1 hA hc
    exact (id_spec ((hvr i hi' hi).ext hA.2) hll).mono fun r W2 ⟨g1, g2⟩ => ⟨g2, hc.ext g2, g1⟩
  · rintro t W1 hA hc rfl
    exact does_of (run_one_str _ W1) ⟨ext_any _ W1, hc.ext (ext_any _ W1), fun _ => (own_one_str _ W1).row⟩
  · intro t W1 hA hc hF
    have ho := hc.2.2.2.1 rfl
    refine ho.pushS hA.2 (hF rfl) (by simp; omega) fun v' W2 g1 g2 g3 => ⟨⟨g3.size, g2⟩, ⟨hc.1.mod g3 (ho.neK hc.1 (by decide)), hc.2.1.mod g3 (ho.neK hc.2.1 (by decide)), fun _ => (hc.2.2.1 (by omega)).mod g3 (ho.neK (hc.2.2.1 (by omega)) (by decide)), vac (by omega), vac (by omega)⟩, fun _ => g1, fun v h => h, fun _ => vac (by omega), trivial⟩
  · intro t W1 hA hc hF
    have hk := hc.2.2.1 (by omega)
    have ho := hF rfl
    have hm := Mod.setCell W1 ib 0 t
    obtain ⟨ta, tc, htv⟩ := ho.slice
    refine does_of (run_store1 sz_strsl (by rw [htv]; rfl) (by rw [htv]; rfl) (hk.cell rfl) hk.frozen) ⟨⟨hm.size, Mod.ext hA.2 hm fun k hk => by cases hk; exact hge⟩, ⟨hc.1.mod hm fun e => hne.1 (by cases e; rfl), hc.2.1.mod hm fun e => hne.2 (by cases e; rfl), by omega, vac (by omega), fun _ => ⟨t, hk.set t, hm.own ho (ho.neO hk (by decide))⟩⟩, trivial, fun v h => h, fun v => fun _ => vac (by omega), fun _ => vac (by omega), trivial⟩
  · intro W1 hA hc
    obtain ⟨sv', h1, h2⟩ := hc.2.2.2.2 rfl
    exact hJ W1 sv' hA.2 hc.1 hc.2.1 h1 h2
theorem run_boxRows {a : Option Addr} {n c : Nat} (w : World) : (Instr.box 22 (.slice a n c)).run Try.prog w = .ok (.pointer (some ⟨w.heap.size, 0, none⟩)) (w.alloc (.cells #[.slice a n c] 22)) := by simp [go_sem, Instr.box]
theorem run_boxLie (b : Bool) (w : World) : (Instr.box 4 (.bool b)).run Try.prog w = .ok (.pointer (some ⟨w.heap.size, 0, none⟩)) (w.alloc (.cells #[.bool b] 4)) := by simp [go_sem, Instr.box]
theorem run_allocIds (w : World) : (Instr.alloc 23 true (.tuple #[])).run Try.prog w = .ok (.pointer (some ⟨w.heap.size, 0, none⟩)) (w.alloc (.cells #[.slice none 0 0] 23)) := by kernel_rfl
theorem source_spec {lv : Value} {ls : List (List UInt8)} {lie : Bool} (hr : RowsB w lv ls) (hll : ∀ l ∈ ls, l.length ≤ 1048576) (hln : ls.length ≤ 1048576) :
    Call Try.prog 9 #[lv, .bool lie] w fun fv w' => Ext w w' ∧ ∃ lb eb ib sv, IsSrc w' fv ls lie w.heap.size lb eb ib lv sv := by
  apply vc9
  unfold V9
  obtain ⟨vs, hr1, hvl, hvr⟩ := id hr
  obtain ⟨va, vc, hv⟩ := hr1.slice
  have e1 := ext_any (.cells #[lv] 22) w
  have k1 : Kp w.heap.size #[lv] 22 (w.alloc (.cells #[lv] 22)) := heap_alloc_new w _
  refine does_of (by rw [hv]; exact run_boxRows w) ?_
  rw [← hv]
  generalize hw1 : w.alloc (.cells #[lv] 22) = w1 at e1 k1 ⊢
  have e2 := ext_any (.cells #[.bool lie] 4) w1
  have k2 : Kp w1.heap.size #[.bool lie] 4 (w1.alloc (.cells #[.bool lie] 4)) := heap_alloc_new w1 _
  refine does_of (run_boxLie lie w1) ?_
  have n12 := k1.lt
  have l1 := k1.ext e2
  generalize hw2 : w1.alloc (.cells #[.bool lie] 4) = w2 at e2 k2 l1 ⊢
  have e3 := ext_any (.cells #[.slice none 0 0] 23) w2
  have k3 : Kp w2.heap.size #[.slice none 0 0] 23 (w2.alloc (.cells #[.slice none 0 0] 23)) := heap_alloc_new w2 _
  refine does_of (run_allocIds w2) ?_
  have n13 := l1.lt
  have n23 := k2.lt
  have hg1 := e1.size
  have hg2 := e2.size
  have E := (e1.trans e2).trans e3
  have hl := l1.ext e3
  have he := k2.ext e3
  generalize w2.alloc (.cells #[.slice none 0 0] 23) = w3 at e3 k3 E hl he ⊢
  refine rounds1 (σ := SrcSt) (fun s => .int .i64 ((s.i : Nat) : Int)) (fun s W => s.i ≤ ls.length ∧ Ext w W ∧ Kp w.heap.size #[lv] 22 W ∧ Kp w1.heap.size #[.bool lie] 4 W ∧ Kp w2.heap.size #[s.sv] 23 W ∧ Own W w.heap.size 9 s.sv (strsV ((ls.take s.i).map idOf))) (fun s _ => ls.length - s.i) ⟨0, .slice none 0 0⟩ rfl ⟨Nat.zero_le _, E, hl, he, k3, Own.nil _ _ _⟩ ?_
  rintro next ⟨i, sv⟩ W ⟨hi, hE, h1, h2, h3, ho⟩ hnext _
  simp only at hi h3 ho ⊢
  refine does_load1 agg_rows (h1.cell rfl) (hr1.len u_rows ?_)
  rw [hvl]
  refine does_lt (condP_of (fun hlt => ?_) fun hge => ?_)
  · have hlt : i < ls.length := by simpa using hlt
    refine region9_5 (ls := ls) (lie := lie) (xs := (ls.take i).map idOf) hE hr hlt (hll _ (List.getElem_mem hlt)) (by simp; omega) ⟨by omega, by omega⟩ (by omega) ⟨h1, h2, fun _ => h3, fun _ => ho, vac (by omega)⟩ fun W' sv' g1 g2 g3 g4 g5 _ => does_add (by omega) (by omega) (hnext ⟨i + 1, sv'⟩ _ W' rfl ⟨hlt, g1, g2, g3, g4, ?_⟩ (by simp only; omega))
    simp only
    rw [List.take_succ_eq_append_getElem hlt, List.map_append]
    exact g5
  · have : i = ls.length := by simp at hge; omega
    subst this
    rw [List.take_length] at ho
    exact ⟨hE, _, _, _, sv, rfl, h1, h2, h3, hr.ext hE, ho, by omega, by omega, by omega⟩
end
end Go.Proofs.Ytcncgkkilgmphaa

set_option linter.unusedVariables false
set_option linter.unusedSimpArgs false
namespace Go.Proofs.Ytcncgkkilgmphaa
open Go Go.RowKit

theorem srcF_at {ls : List (List UInt8)} {x : ByteArray} {i : Nat} (hi : i < ls.length) (h : idOf ls[i] = x) (hn : ∀ l ∈ ls.take i, idOf l ≠ x) : srcF ls x = some ls[i] := by
  unfold srcF
  have e : ls = ls.take i ++ ls[i] :: ls.drop (i + 1) := by rw [List.getElem_cons_drop, List.take_append_drop]
  have h0 : (ls.take i).find? (fun l => decide (idOf l = x)) = none := List.find?_eq_none.2 fun l hl => by simpa using hn l hl
  conv => lhs; rw [e]
  rw [List.find?_append, h0, Option.none_or, List.find?_cons_of_pos (by simpa using h)]
theorem srcF_no {ls : List (List UInt8)} {x : ByteArray} (hn : ∀ l ∈ ls, idOf l ≠ x) : srcF ls x = none := List.find?_eq_none.2 fun l hl => by simpa using hn l hl
theorem callV_mono {P : Program} {fv : Value} {args : Array Value} {w : World} {k k' : Value → World → Prop} (h : CallV P fv args w k) (hk : ∀ v w', k v w' → k' v w') : CallV P fv args w k' :=
  let ⟨f, a, b, h1, h2⟩ := h; ⟨f, a, b, h1, h2.mono hk⟩
def SrcR (w w' : World) (ls : List (List UInt8)) (x : ByteArray) (r : Value) : Prop :=
  (∃ l bv, srcF ls x = some l ∧ r = .tuple #[bv, .bool true] ∧ OwnB w w' bv l) ∨ (srcF ls x = none ∧ r = .tuple #[.slice none 0 0, .bool false])
theorem source_call {w : World} {fv : Value} {ls : List (List UInt8)} {base lb eb ib : Nat} {lv sv : Value} (hs : IsSrc w fv ls false base lb eb ib lv sv) (hll : ∀ l ∈ ls, l.length ≤ 1048576) (x : ByteArray) :
    CallV Try.prog fv #[.string x] w fun r w' => Ext w w' ∧ SrcR w w' ls x r := by
  refine ⟨_, _, _, hs.fv, ?_⟩
  apply vc45
  unfold V45
  obtain ⟨vs, hr, hvl, hvr⟩ := id hs.rows
  refine rounds1 (σ := Nat) (fun i => .int .i64 ((i : Nat) : Int)) (fun i W => i ≤ ls.length ∧ Ext w W ∧ ∀ l ∈ ls.take i, idOf l ≠ x) (fun i _ => ls.length - i) 0 rfl ⟨Nat.zero_le _, Ext.refl _, by simp⟩ ?_
  rintro next i W ⟨hi, hE, hn⟩ hnext _
  refine does_load1 agg_rows ((hs.l.ext hE).cell rfl) ((hr.ext hE).len u_rows ?_)
  rw [hvl]
  have hle := hr.len_le
  refine does_lt (condP_of (fun hlt => ?_) fun hge => ?_)
  · have hlt : i < ls.length := by simpa using hlt
    refine join1 (fun t W' => W' = W ∧ t = .int .i64 (i : Nat)) ?_ (fun j hj => ?_)
    rotate_left
    · exact does_load1 agg_bool ((hs.e.ext hE).cell rfl) (condP_of (fun h => by cases h) fun _ => hj _ _ ⟨rfl, rfl⟩)
    rintro t W' ⟨rfl, rfl⟩ _
    have hrow : Row W' sv (strsV (ls.map idOf)) := (hs.ids.ext hE).row
    refine does_load1 agg_strsl ((hs.i.ext hE).cell rfl) (hrow.index u_strs sz_str (by simpa using hlt) fun p hp => does_load1 agg_str hp ?_)
    rw [strsV_get (by simpa using hlt), List.getElem_map]
    refine does_of (run_eqS W') (condP_of (fun he => ?_) fun he => ?_)
    · have he : idOf ls[i] = x := by simpa using he
      refine does_load1 agg_rows ((hs.l.ext hE).cell rfl) ((hr.ext hE).index u_rows sz_bytesl (by omega) fun p hp => does_load1 agg_bytes hp ?_)
      refine (copyBytes_spec ((hvr i (by omega) hlt).ext hE) (Nat.le_trans (hll _ (List.getElem_mem hlt)) (by omega))).mono fun bv W2 ⟨h1, h2⟩ => ⟨hE.trans h2, .inl ⟨_, bv, srcF_at hlt he hn, rfl, h1.back hE⟩⟩
    · have he : idOf ls[i] ≠ x := by simpa using he
      refine does_add (by omega) (by omega) (hnext (i + 1) _ W' rfl ⟨hlt, hE, fun l hl => ?_⟩ (by omega))
      rw [List.take_succ_eq_append_getElem hlt] at hl
      rcases List.mem_append.1 hl with hl | hl
      · exact hn l hl
      · rw [List.mem_singleton.1 hl]; exact he
  · have : i = ls.length := by simp at hge; omega
    subst this
    rw [List.take_length] at hn
    exact ⟨hE, .inr ⟨srcF_no hn, rfl⟩⟩
/-- an object asked for -/
def GetR (w w' : World) (ls : List (List UInt8)) (x : ByteArray) (r : Value) : Prop :=
  Ext w w' ∧ ∃ dv iv pv o, OwnOb w w' 106 dv iv pv o ∧ ((getO ls x = some o ∧ r = .tuple #[ObV dv iv pv o, .bool true]) ∨ (getO ls x = none ∧ r = .tuple #[ObV dv iv pv o, .bool false]))
theorem object_spec {w : World} {fv : Value} {ls : List (List UInt8)} {base lb eb ib : Nat} {lv sv : Value} (hs : IsSrc w fv ls false base lb eb ib lv sv) (hll : ∀ l ∈ ls, l.length ≤ 1048576) (x : ByteArray) :
    Call Try.prog 49 #[fv, .string x] w fun r w' => GetR w w' ls x r := by
  apply vc49
  unfold V49
  refine does_of (run_alloc_o w) ?_
  have hE1 := ext_any (.cells (ObC (.slice none 0 0) (.slice none 0 0) (.slice none 0 0) ob0) 72) w
  have hb1 : OBlk (w.alloc (.cells (ObC (.slice none 0 0) (.slice none 0 0) (.slice none 0 0) ob0) 72)) w.heap.size 72 (.slice none 0 0) (.slice none 0 0) (.slice none 0 0) ob0 := heap_alloc_new w _
  generalize w.alloc (.cells (ObC (.slice none 0 0) (.slice none 0 0) (.slice none 0 0) ob0) 72) = w1 at hE1 hb1
  refine callV_mono (source_call (hs.ext hE1) hll x) fun r w2 ⟨hE2, hr⟩ => ?_
  rcases hr with ⟨l, bv, hsr, rfl, hob⟩ | ⟨hsr, rfl⟩
  · refine ex2a (ex2b (does_of (run_not w2) ?_))
    rw [show (!true) = false from rfl, condP_false]
    refine (decode_spec hob.row (hll _ (srcF_mem hsr))).mono fun r w3 ⟨hE3, hd⟩ => ?_
    -- what has been decoded is handed on
    have done : ∀ {dv iv pv : Value} {o : Ob} {e : Int} {b : Bool}, OwnOb w2 w3 106 dv iv pv o → b = decide (e = 0) → (∀ w' , Ext w w' → OwnOb w w' 106 dv iv pv o → GetR w w' ls x (.tuple #[ObV dv iv pv o, .bool b])) →
        Does Try.prog (Instr.alloc 72 true (.tuple #[])) w3 fun o8 W => Does Try.prog (Instr.storeAt 72 o8 (ObV dv iv pv o)) W fun _ W => Does Try.prog (Instr.loadAt 72 o8) W fun t24 W =>
          Does Try.prog (eqE .eql 29 (.tmp 25) (.const (.int .i64 0)) (.int .i64 e) (.int .i64 0)) W fun t26 W => Does Try.prog (Instr.storeAt 72 (.pointer (some ⟨w.heap.size, 0, none⟩)) t24) W fun _ W =>
            SameP Try.prog (loadRes 72 (.pointer (some ⟨w.heap.size, 0, none⟩))) W fun r0 => GetR w W ls x (.tuple #[r0, t26]) := by
      intro dv iv pv o e b hO hb hK
      refine does_of (run_alloc_o w3) ?_
      have hE4 := ext_any (.cells (ObC (.slice none 0 0) (.slice none 0 0) (.slice none 0 0) ob0) 72) w3
      have hb4 : OBlk (w3.alloc (.cells (ObC (.slice none 0 0) (.slice none 0 0) (.slice none 0 0) ob0) 72)) w3.heap.size 72 (.slice none 0 0) (.slice none 0 0) (.slice none 0 0) ob0 := heap_alloc_new w3 _
      generalize w3.alloc (.cells (ObC (.slice none 0 0) (.slice none 0 0) (.slice none 0 0) ob0) 72) = w4 at hE4 hb4
      have hO4 := hO.ext hE4
      obtain ⟨w5, s1, s2, s3⟩ := run_store_o hO4.isOb hb4
      have hO5 := hO4.mod (hb4 : Kp w3.heap.size zObC 72 w4) (by decide) (by decide) (by decide) s3
      refine does_of s1 (does_of (run_load_o hO5.isOb s2) (does_of (run_eqI w5) ?_))
      have hEm : Ext w3 w5 := Mod.ext hE4 s3 fun k hk => by cases hk; exact Nat.le_refl _
      have hb5 := (hb1.ext (hE2.trans hE3)).ext hEm
      obtain ⟨w6, t1, t2, t3⟩ := run_store_o hO5.isOb hb5
      have hE13 : Ext w w3 := hE1.trans (hE2.trans hE3)
      have hO6 := (hO5.mod (hb5 : Kp w.heap.size zObC 72 w5) (by decide) (by decide) (by decide) t3).back (hE1.trans hE2).size
      refine does_of t1 (same_load_o hO6.isOb t2 ?_)
      rw [← hb]
      exact hK w6 (Mod.ext (hE13.trans hEm) t3 fun k hk => by cases hk; exact Nat.le_refl _) hO6
    rcases hd with ⟨o, dv, iv, pv, hmay, hen, rfl, hO⟩ | ⟨hno, rfl⟩
    · refine ex2a (ex2b (done hO rfl fun w' hE hO' => ⟨hE, dv, iv, pv, o, hO', .inl ⟨?_, rfl⟩⟩))
      unfold getO
      rw [hsr, ← hen]
      exact decO_of hmay
    · refine ex2a (ex2b (done (o := ob0) ⟨OwnB.nil _ _, Own3.nil _ _ _, Own.nil _ _ _⟩ (b := false) ?_ fun w' hE hO' => ⟨hE, _, _, _, ob0, hO', .inr ⟨?_, rfl⟩⟩))
      · split <;> rfl
      unfold getO
      rw [hsr]
      exact decO_none.2 hno
  · refine ex2a (ex2b (does_of (run_not w2) ?_))
    rw [show (!false) = true from rfl, condP_true]
    refine does_of (run_new_o w2) ?_
    obtain ⟨W2, s1, s2, s3⟩ := run_store_o (isOb0 w2) (hb1.ext hE2)
    refine does_of s1 (same_load_o (isOb0 W2) s2 ⟨Mod.ext (hE1.trans hE2) s3 fun k hk => by cases hk; exact Nat.le_refl _, _, _, _, ob0, ⟨OwnB.nil _ _, Own3.nil _ _ _, Own.nil _ _ _⟩, .inr ⟨?_, rfl⟩⟩)
    unfold getO
    rw [hsr]
    rfl
end Go.Proofs.Ytcncgkkilgmphaa

set_option linter.unusedVariables false
set_option linter.unusedSimpArgs false
namespace Go.Proofs.Ytcncgkkilgmphaa
open Go Go.RowKit

theorem nodup_le2 : ∀ {l m : List ByteArray}, l.Nodup → (∀ x ∈ l, x ∈ m) → l.length ≤ m.length
  | [], _, _, _ => by simp
  | a :: l, m, hn, h => by
    have ha := h a (by simp)
    have h1 := nodup_le2 (l := l) (m := m.erase a) (List.nodup_cons.1 hn).2 fun x hx =>
      (List.mem_erase_of_ne (fun e : x = a => (List.nodup_cons.1 hn).1 (by rw [← e]; exact hx))).2 (h x (by simp [hx]))
    rw [List.length_erase_of_mem ha] at h1
    have : 0 < m.length := List.length_pos_of_mem ha
    simp only [List.length_cons]
    omega
theorem sort_nodup2 {l : List ByteArray} (h : l.Nodup) : Strict (sortS l) := by
  have h1 := sortS_sorted l
  have h2 : (sortS l).Nodup := (sortS_perm l).symm.nodup h
  unfold Sorted at h1
  unfold Strict
  have h3 : (sortS l).Pairwise fun a b => blt b a = false ∧ a ≠ b := List.pairwise_and_iff.2 ⟨h1, h2⟩
  exact h3.imp fun ⟨h4, h5⟩ => by
    cases h6 : blt _ _
    · exact absurd (blt_total h6 h4) h5
    · rfl
theorem within_spec {n : Nat} (h1 : 1 ≤ n) (h2 : n ≤ 2000) {w : World} : Call Try.prog 47 #[.int .i64 n] w fun v w' => v = .bool true ∧ w' = w := by
  apply vc47
  unfold V47
  refine does_ge ?_
  rw [show decide ((1 : Int) ≤ (n : Nat)) = true by simp; omega]
  refine join1 (fun t W => W = w ∧ t = .bool true) ?_ (fun j hj => ⟨fun _ => does_le ?_, fun h => absurd rfl h⟩)
  · rintro t W ⟨rfl, rfl⟩ _
    rw [pickP_true]
    exact ⟨rfl, rfl⟩
  · rw [show decide (((n : Nat) : Int) ≤ 2000) = true by simp; omega]
    exact hj _ _ ⟨rfl, rfl⟩
theorem Own.neM {W : World} {base b : Nat} {e : TypeId} {v : Value} {xs : List Value} {l : KV} (h : Own W base e v xs) (hm : MapAt W b l) : v.ownBlock = none ∨ v.ownBlock ≠ some b := by
  cases hv : v.ownBlock with
  | none => exact .inl rfl
  | some g =>
    refine .inr fun e' => ?_
    cases e'
    obtain ⟨cur, hc⟩ := h.block' b hv
    obtain ⟨es, c, h1, _⟩ := hm
    rw [hc] at h1
    cases h1
theorem Own.neM' {W : World} {base b : Nat} {e : TypeId} {v : Value} {xs : List Value} {l : KV} (h : Own W base e v xs) (hm : MapAt W b l) : some b ≠ v.ownBlock := fun e' => by
  rcases h.neM hm with h1 | h1
  · rw [h1] at e'; cases e'
  · exact h1 e'.symm
theorem Sep.grown {v u u' : Value} {n : Nat} (h : Sep v u) (hv : ∀ k, v.ownBlock = some k → k < n) (hu : u'.ownBlock = u.ownBlock ∨ u'.ownBlock = some n) : Sep v u' := by
  rcases hu with hu | hu
  · unfold Sep at *; rw [hu]; exact h
  · exact Sep.new (w := default) hv fun k hk => by rw [hu] at hk; cases hk; exact Nat.le_refl _
theorem Own.cut {w : World} {base : Nat} {e : TypeId} {xs : List Value} {a : Option Addr} {n c m : Nat} (h : Own w base e (.slice a n c) xs) (hm : m ≤ xs.length) : Own w base e (.slice a m c) (xs.take m) := by
  have hl : (xs.take m).length = m := by simp; omega
  rcases h.2 with ⟨hv, h0⟩ | ⟨g, cap, cur, hv, hb, hg, hn, hmm, hs, ht⟩
  · cases hv
    have : xs = [] := List.eq_nil_of_length_eq_zero h0
    subst this
    have : m = 0 := by simpa using hm
    subst this
    exact Own.nil _ _ _
  · cases hv
    refine ⟨by simp, .inr ⟨g, c, cur, by rw [hl], hb, hg, by omega, hmm, hs, ?_⟩⟩
    rw [Nat.mul_one] at ht ⊢
    rw [hl]
    conv => rhs; rw [← ht]
    rw [List.take_take, Nat.min_eq_left hm]
theorem Own.push3 {w0 W : World} {v x : Value} {xs ys : List ByteArray} {ty : TypeId} {k : Value → World → Prop} (ho : Own W w0.heap.size 9 v (strsV xs)) (hE : Ext w0 W) (hr : Row W x (strsV ys)) (hl : xs.length + ys.length ≤ 1099511627776)
    (hk : ∀ v' W', Own W' w0.heap.size 9 v' (strsV (xs ++ ys)) → Ext w0 W' → Mod v.ownBlock W W' → (v'.ownBlock = v.ownBlock ∨ v'.ownBlock = some W.heap.size) → k v' W') : Does Try.prog (Builtin.append_ #[23, 23] ty #[v, x]) W k :=
  ho.append u_strs info_str rfl hr (strsV_one _) (by simp; omega) (by omega) hE.size fun v' W' h1 h2 h3 => hk v' W' (by rw [strsV_append]; exact h1) (hE.grownOwn ho h2) h2 h3
/-! ### the walk's state -/
noncomputable def isO (ls : List (List UInt8)) (x : ByteArray) : Bool := (getO ls x).isSome
structure ClSt where
  tv : Value
  bv : Value
  kv : Value
  kvs : KV
  st : List ByteArray
/-- what was met and what is to do, in plain words -/
structure ClP (ls : List (List UInt8)) (a ks st : List ByteArray) : Prop where
  ca : ∀ x ∈ a, x ∈ ks ∨ x ∈ st
  cr : ∀ x ∈ ks, ∀ o, getO ls x = some o → ∀ y ∈ refsOf o, y ∈ ks ∨ y ∈ st
  sk : ∀ x ∈ ks, Rch ls a x
  ss : ∀ x ∈ st, Rch ls a x
  ln : st.length ≤ 1048576 * (ks.length + 1)
theorem mem_last {st : List ByteArray} {y : ByteArray} (h0 : 0 < st.length) (h : y ∈ st) : y ∈ st.take (st.length - 1) ∨ y = st[st.length - 1]'(by omega) := by
  have e : st = st.take (st.length - 1) ++ [st[st.length - 1]'(by omega)] := by
    rw [← List.take_succ_eq_append_getElem (by omega), show st.length - 1 + 1 = st.length by omega, List.take_length]
  rw [e] at h
  rcases List.mem_append.1 h with h | h
  · exact .inl h
  · exact .inr (List.mem_singleton.1 h)
section
variable {ls : List (List UInt8)} {a ks st : List ByteArray}
theorem ClP.old (h : ClP ls a ks st) (h0 : 0 < st.length) (hx : st[st.length - 1]'(by omega) ∈ ks) : ClP ls a ks (st.take (st.length - 1)) := by
  have hm : ∀ {y}, y ∈ ks ∨ y ∈ st → y ∈ ks ∨ y ∈ st.take (st.length - 1) := fun hy => by
    rcases hy with hy | hy
    · exact .inl hy
    · rcases mem_last h0 hy with hy | rfl
      · exact .inr hy
      · exact .inl hx
  refine ⟨fun x hx => hm (h.ca x hx), fun x hx o ho y hy => hm (h.cr x hx o ho y hy), h.sk, fun x hx => h.ss x (List.mem_of_mem_take hx), ?_⟩
  have := h.ln
  simp only [List.length_take]
  omega
theorem ClP.bad (h : ClP ls a ks st) (h0 : 0 < st.length) (hn : getO ls (st[st.length - 1]'(by omega)) = none) : ClP ls a (ks ++ [st[st.length - 1]'(by omega)]) (st.take (st.length - 1)) := by
  have hm : ∀ {y}, y ∈ ks ∨ y ∈ st → y ∈ ks ++ [st[st.length - 1]'(by omega)] ∨ y ∈ st.take (st.length - 1) := fun hy => by
    rcases hy with hy | hy
    · exact .inl (List.mem_append.2 (.inl hy))
    · rcases mem_last h0 hy with hy | rfl
      · exact .inr hy
      · exact .inl (by simp)
  refine ⟨fun x hx => hm (h.ca x hx), fun x hx o ho y hy => ?_, fun x hx => ?_, fun x hx => h.ss x (List.mem_of_mem_take hx), ?_⟩
  · rcases List.mem_append.1 hx with hx | hx
    · exact hm (h.cr x hx o ho y hy)
    · rw [List.mem_singleton.1 hx, hn] at ho; cases ho
  · rcases List.mem_append.1 hx with hx | hx
    · exact h.sk x hx
    · rw [List.mem_singleton.1 hx]; exact h.ss _ (List.getElem_mem _)
  · have := h.ln
    simp only [List.length_take, List.length_append, List.length_cons, List.length_nil]
    omega
theorem ClP.ok {o : Ob} (h : ClP ls a ks st) (h0 : 0 < st.length) (hn : getO ls (st[st.length - 1]'(by omega)) = some o) (hl : (refsOf o).length ≤ 1048576) : ClP ls a (ks ++ [st[st.length - 1]'(by omega)]) (st.take (st.length - 1) ++ refsOf o) := by
  have hm : ∀ {y}, y ∈ ks ∨ y ∈ st → y ∈ ks ++ [st[st.length - 1]'(by omega)] ∨ y ∈ st.take (st.length - 1) ++ refsOf o := fun hy => by
    rcases hy with hy | hy
    · exact .inl (List.mem_append.2 (.inl hy))
    · rcases mem_last h0 hy with hy | rfl
      · exact .inr (List.mem_append.2 (.inl hy))
      · exact .inl (by simp)
  have hx0 := h.ss _ (List.getElem_mem (show st.length - 1 < st.length by omega))
  refine ⟨fun x hx => hm (h.ca x hx), fun x hx o' ho y hy => ?_, fun x hx => ?_, fun x hx => ?_, ?_⟩
  · rcases List.mem_append.1 hx with hx | hx
    · exact hm (h.cr x hx o' ho y hy)
    · rw [List.mem_singleton.1 hx, hn] at ho
      cases ho
      exact .inr (List.mem_append.2 (.inr hy))
  · rcases List.mem_append.1 hx with hx | hx
    · exact h.sk x hx
    · rw [List.mem_singleton.1 hx]; exact hx0
  · rcases List.mem_append.1 hx with hx | hx
    · exact h.ss x (List.mem_of_mem_take hx)
    · exact Rch.step hx0 hn hx
  · have := h.ln
    simp only [List.length_take, List.length_append, List.length_cons, List.length_nil]
    omega
/-- nothing to do: all that can be reached was met -/
theorem ClP.all (h : ClP ls a ks []) (x : ByteArray) : x ∈ ks ↔ Rch ls a x := by
  refine ⟨h.sk x, fun hx => ?_⟩
  induction hx with
  | start hx => exact (h.ca _ hx).resolve_right (by simp)
  | step _ ho hy ih => exact (h.cr _ ih _ ho _ hy).resolve_right (by simp)
end
end Go.Proofs.Ytcncgkkilgmphaa

set_option linter.unusedVariables false
set_option linter.unusedSimpArgs false
namespace Go.Proofs.Ytcncgkkilgmphaa
open Go Go.RowKit

structure ClI (w W : World) (ls : List (List UInt8)) (a : List ByteArray) (mb : Nat) (s : ClSt) : Prop where
  e : Ext w W
  m : MapAt W mb s.kvs
  ok : Own W w.heap.size 9 s.tv (strsV ((keysOf s.kvs).filter (isO ls)))
  bad : Own W w.heap.size 9 s.bv (strsV ((keysOf s.kvs).filter fun x => !isO ls x))
  st : Own W w.heap.size 9 s.kv (strsV s.st)
  s1 : Sep s.tv s.bv
  s2 : Sep s.tv s.kv
  s3 : Sep s.bv s.kv
  p : ClP ls a (keysOf s.kvs) s.st
theorem ClI.ext {w W W' : World} {ls : List (List UInt8)} {a : List ByteArray} {mb : Nat} {s : ClSt} (h : ClI w W ls a mb s) (hE : Ext W W') : ClI w W' ls a mb s :=
  ⟨h.e.trans hE, h.m.ext hE, h.ok.ext hE, h.bad.ext hE, h.st.ext hE, h.s1, h.s2, h.s3, h.p⟩
theorem u_map : Try.prog.underlying 77 = some (.map 9 3) := by kernel_rfl
theorem u_str : Try.prog.underlying 9 = some .string := by kernel_rfl
theorem zero_int (w : World) : (zeroValue 3).run Try.prog w = .ok (.int .i64 0) w := by kernel_rfl
def ClR (w w' : World) (ls : List (List UInt8)) (a : List ByteArray) (r : Value) : Prop :=
  Ext w w' ∧ ∃ mv sv met mis, r = .tuple #[mv, sv, .int .i64 0] ∧ Own w' w.heap.size 9 mv (strsV met) ∧ Own w' w.heap.size 9 sv (strsV mis) ∧ Strict met ∧ Strict mis ∧ (∀ x, x ∈ met ↔ Rch ls a x ∧ isO ls x = true) ∧ (∀ x, x ∈ mis ↔ Rch ls a x ∧ isO ls x = false)
theorem keys_new {l : KV} {k : ByteArray} {v : Value} (h : k ∉ keysOf l) : keysOf (ins l k v) = keysOf l ++ [k] := by rw [keysOf_ins, if_neg h]
theorem own_le {w : World} {base : Nat} {e : TypeId} {v : Value} {xs : List Value} (h : Own w base e v xs) : ∀ k, v.ownBlock = some k → k < w.heap.size := fun k hk => (h.lt k hk).2
theorem OwnOb.modLow {w0 W W' : World} {e : TypeId} {dv iv pv : Value} {o : Ob} {g : Option Nat} (h : OwnOb w0 W e dv iv pv o) (hm : Mod g W W') (hg : ∀ k, g = some k → k < w0.heap.size) : OwnOb w0 W' e dv iv pv o := by
  have hne : ∀ {v : Value}, (∀ k, v.ownBlock = some k → w0.heap.size ≤ k) → v.ownBlock = none ∨ v.ownBlock ≠ g := fun {v} hv => by
    cases h : v.ownBlock with
    | none => exact .inl rfl
    | some b =>
      refine .inr fun hh => ?_
      have h1 := hv b h
      have h2 := hg b hh.symm
      omega
  exact ⟨Own.kept h.data hm (hne fun k hk => (Own.lt h.data k hk).1), h.items.kept hm (hne fun k hk => (h.items.lt k hk).1), h.pars.kept hm (hne fun k hk => (h.pars.lt k hk).1)⟩
set_option maxHeartbeats 2000000 in
theorem closure_spec {w : World} {fv av : Value} {ls : List (List UInt8)} {base lb eb ib most : Nat} {lv sv : Value} {a U : List ByteArray} (hs : IsSrc w fv ls false base lb eb ib lv sv) (hll : ∀ l ∈ ls, l.length ≤ 1048576)
    (ha : Row w av (strsV a)) (hal : a.length ≤ 1048576) (hm1 : 1 ≤ most) (hm2 : most ≤ 2000) (hU : ∀ x, Rch ls a x → x ∈ U) (hUl : U.length ≤ most) :
    Call Try.prog 10 #[fv, av, .int .i64 most] w fun r w' => ClR w w' ls a r := by
  apply vc10
  unfold V10
  refine (within_spec hm1 hm2).mono fun v w' ⟨hv, hw⟩ => ?_
  subst hv hw
  refine does_of (run_not w') ?_
  rw [show (!true) = false from rfl, condP_false]
  refine does_of (run_makeMap' _ w') ?_
  have e1 : Ext w' (w'.alloc (.map #[] 0)) := ext_any _ w'
  have m1 : MapAt (w'.alloc (.map #[] 0)) w'.heap.size [] := map_made w'
  generalize w'.alloc (.map #[] 0) = w1 at e1 m1
  refine (clone_spec (ha.ext e1) (by omega)).mono fun kv w2 ⟨hk, e2⟩ => ?_
  have hrefs : ∀ {x : ByteArray} {o : Ob}, getO ls x = some o → (refsOf o).length ≤ 32768 := fun {x o} h => by
    unfold getO at h
    obtain ⟨l, h1, h2⟩ := Option.bind_eq_some_iff.1 h
    obtain ⟨h3, h4⟩ := decO_some h2
    have h5 := refs_len h3
    rw [h4] at h5
    have := hll l (srcF_mem h1)
    omega
  refine rounds3 (σ := ClSt) (fun s => s.tv) (fun s => s.bv) (fun s => s.kv) (fun s W => ClI w' W ls a w'.heap.size s) (fun s _ => (U.length - (keysOf s.kvs).length) * 2097152 + s.st.length) ⟨.slice none 0 0, .slice none 0 0, kv, [], a⟩ rfl rfl rfl
    ⟨e1.trans e2, m1.ext e2, Own.nil _ _ _, Own.nil _ _ _, hk.mono e1.size, .inl rfl, .inl rfl, .inl rfl, ⟨fun x hx => .inr hx, fun x hx => (by simp [keysOf] at hx), fun x hx => (by simp [keysOf] at hx), fun x hx => Rch.start hx, (by simp [keysOf]; omega)⟩⟩ ?_
  rintro next ⟨tv, bv, kv, kvs, st⟩ W hI hnext _
  simp only
  have hks : (keysOf kvs).length ≤ U.length := nodup_le2 hI.m.nodup fun x hx => hU x (hI.p.sk x hx)
  have hln := hI.p.ln
  simp only at hln
  have hln2 : st.length ≤ 1048576 * 2001 := Nat.le_trans hln (Nat.mul_le_mul_left _ (by omega))
  have hrow := hI.st.row
  simp only at hrow
  have hlen : (strsV st).length = st.length := by simp
  refine hrow.len u_strs (does_gt ?_)
  rw [hlen]
  refine condP_of (fun hgt => ?_) fun hle => ?_
  rotate_left
  · -- nothing is left
    have h0 : st = [] := List.eq_nil_of_length_eq_zero (by simp at hle; simpa using hle)
    subst h0
    have hall := hI.p.all
    simp only at hall
    have hnd := hI.m.nodup
    simp only at hnd
    have hfl : ∀ p : ByteArray → Bool, ((keysOf kvs).filter p).length ≤ 1099511627776 := fun p => Nat.le_trans (List.length_filter_le _ _) (by omega)
    refine (sort_spec _ (Nat.le_refl _) hI.ok.row (hfl _)).mono fun mv W1 ⟨h1, hE1⟩ => ?_
    refine (sort_spec _ (Nat.le_refl _) (hI.bad.row.ext hE1) (hfl _)).mono fun nv W2 ⟨h2, hE2⟩ => ⟨hI.e.trans (hE1.trans hE2), mv, nv, _, _, rfl, (h1.ext hE2).mono hI.e.size, h2.mono (hI.e.trans hE1).size, sort_nodup2 (hnd.filter _), sort_nodup2 (hnd.filter _), fun x => ?_, fun x => ?_⟩
    · rw [mem_sortS, List.mem_filter, hall]
    · rw [mem_sortS, List.mem_filter, hall]; simp
  have h0 : 0 < st.length := by simpa using hgt
  have hi1 : st.length - 1 < st.length := by omega
  refine hrow.len u_strs (does_sub (by omega) (by omega) ?_)
  rw [hlen, show ((st.length : Nat) : Int) - 1 = ((st.length - 1 : Nat) : Int) by omega]
  refine hrow.index u_strs sz_str (by rw [hlen]; exact hi1) fun p hp => does_load1 agg_str hp ?_
  rw [strsV_get hi1]
  refine hrow.len u_strs (does_sub (by omega) (by omega) ?_)
  rw [hlen, show ((st.length : Nat) : Int) - 1 = ((st.length - 1 : Nat) : Int) by omega]
  obtain ⟨ka, kc, hkv, hkl, _⟩ := id hrow
  have hcut : Own W w'.heap.size 9 (.slice ka (st.length - 1) kc) (strsV (st.take (st.length - 1))) := by
    rw [strsV_take]
    exact Own.cut (n := (strsV st).length) (by rw [← hkv]; exact hI.st) (by rw [hlen]; omega)
  have hcb : (Value.slice ka (st.length - 1) kc).ownBlock = kv.ownBlock := by rw [hkv]; cases ka <;> rfl
  refine does_of (by rw [hkv]; exact run_upto u_strs sz_str (by rw [hlen] at hkl; have := hkl; omega) W) ?_
  generalize hnk : Value.slice ka (st.length - 1) kc = nk at hcut hcb ⊢
  have hs2 : Sep tv nk := by have := hI.s2; simp only [Sep] at this ⊢; rw [hcb]; exact this
  have hs3 : Sep bv nk := by have := hI.s3; simp only [Sep] at this ⊢; rw [hcb]; exact this
  refine does_of (hI.m.lookupOk u_map u_str (zero_int W) _) (ex2a (ex2b ?_))
  refine condP_of (fun hin => ?_) fun hin => ?_
  · have hin : st[st.length - 1] ∈ keysOf kvs := by simpa using hin
    refine hnext ⟨tv, bv, nk, kvs, st.take (st.length - 1)⟩ _ _ _ W rfl rfl rfl ⟨hI.e, hI.m, hI.ok, hI.bad, hcut, hI.s1, hs2, hs3, hI.p.old h0 hin⟩ ?_
    simp only [List.length_take]
    omega
  have hin : st[st.length - 1] ∉ keysOf kvs := by simpa using hin
  have hrx : Rch ls a st[st.length - 1] := hI.p.ss _ (List.getElem_mem _)
  have hks2 : (keysOf kvs).length + 1 ≤ U.length := by
    have := nodup_le2 (l := st[st.length - 1] :: keysOf kvs) (m := U) (List.nodup_cons.2 ⟨hin, hI.m.nodup⟩) fun x hx => by
      rcases List.mem_cons.1 hx with rfl | hx
      · exact hU _ hrx
      · exact hU x (hI.p.sk x hx)
    simpa using this
  have hkl2 : kvs.length = (keysOf kvs).length := by simp [keysOf]
  refine does_of (hI.m.len u_map _) ?_
  refine does_ge ?_
  rw [show decide (((most : Nat) : Int) ≤ ((kvs.length : Nat) : Int)) = false by simp; omega, condP_false]
  generalize hx : st[st.length - 1] = x at hin hrx ⊢
  obtain ⟨W1, hup, hm1', hmod, _⟩ := hI.m.update u_map u_str x (.int .i64 1)
  refine does_of hup ?_
  have hgm : w'.heap.size ≤ w'.heap.size := Nat.le_refl _
  have hI1e : Ext w' W1 := Mod.ext hI.e hmod fun k hk => by cases hk; exact Nat.le_refl _
  have ok1 := hmod.own hI.ok (hI.ok.neM hI.m)
  have bad1 := hmod.own hI.bad (hI.bad.neM hI.m)
  have cut1 := hmod.own hcut (hcut.neM hI.m)
  have hs1 := hI.s1
  have hp := hI.p
  have hkeys := keys_new (v := .int .i64 1) hin
  simp only at hs1 hp ok1 bad1
  refine (object_spec (hs.ext hI1e) hll x).mono fun r W2 ⟨hE2, dv, iv, pv, o, hO, hr⟩ => ?_
  have m2 := hm1'.ext hE2
  have ok2 := ok1.ext hE2
  have bad2 := bad1.ext hE2
  have cut2 := cut1.ext hE2
  have hE02 := hI1e.trans hE2
  have hOw := hO
  have hltv := own_le ok1
  replace hO := hO.isOb
  have alloc : ∀ {b : Bool} {k : Value → World → Prop}, r = .tuple #[ObV dv iv pv o, .bool b] → (∀ W3 ob, Ext W2 W3 → OBlk W3 ob 72 dv iv pv o → IsOb W3 dv iv pv o → k (.pointer (some ⟨ob, 0, none⟩)) W3) →
      Does Try.prog (Instr.alloc 72 true (.tuple #[])) W2 fun t16 W => Does Try.prog (Instr.storeAt 72 t16 (ObV dv iv pv o)) W fun _ W => k t16 W := by
    intro b k _ hk
    refine does_of (run_alloc_o W2) ?_
    have hE4 := ext_any (.cells (ObC (.slice none 0 0) (.slice none 0 0) (.slice none 0 0) ob0) 72) W2
    have hb4 : OBlk (W2.alloc (.cells (ObC (.slice none 0 0) (.slice none 0 0) (.slice none 0 0) ob0) 72)) W2.heap.size 72 (.slice none 0 0) (.slice none 0 0) (.slice none 0 0) ob0 := heap_alloc_new W2 _
    generalize W2.alloc (.cells (ObC (.slice none 0 0) (.slice none 0 0) (.slice none 0 0) ob0) 72) = w4 at hE4 hb4
    obtain ⟨w5, s1, s2, s3⟩ := run_store_o (hO.ext hE4) hb4
    have hEm : Ext W2 w5 := Mod.ext hE4 s3 fun k hk => by cases hk; exact Nat.le_refl _
    exact does_of s1 (hk w5 _ hEm s2 (hO.ext hEm))
  have hm1 : Row W2 av (strsV a) := (ha.ext hE02)
  rcases hr with ⟨hg, rfl⟩ | ⟨hg, rfl⟩
  · -- an object: its refs are to do
    refine ex2a (ex2b (alloc rfl fun W3 ob hE3 hob hO3 => does_of (run_not W3) ?_))
    rw [show (!true) = false from rfl, condP_false]
    have e4 := ext_any (.cells #[.string x] 9) W3
    have o4 := own_one_str x W3
    refine does_of (run_one_str x W3) ?_
    generalize W3.alloc (.cells #[.string x] 9) = W4 at e4 o4
    have E24 := hE3.trans e4
    have E04 := hE02.trans E24
    have hfo : (keysOf (ins kvs x (.int .i64 1))).filter (isO ls) = (keysOf kvs).filter (isO ls) ++ [x] := by
      rw [hkeys, List.filter_append]
      simp [isO, hg]
    have hfb : (keysOf (ins kvs x (.int .i64 1))).filter (fun y => !isO ls y) = (keysOf kvs).filter fun y => !isO ls y := by
      rw [hkeys, List.filter_append]
      simp [isO, hg]
    have hfl : ((keysOf kvs).filter (isO ls)).length ≤ 2000 := Nat.le_trans (List.length_filter_le _ _) (by omega)
    have ok4 := ok2.ext E24
    have bad4 := bad2.ext E24
    have cut4 := cut2.ext E24
    have m4 := m2.ext E24
    refine ok4.push3 E04 o4.row (by simp; omega) fun tv' W5 ok5 E05 hmod5 hat5 => ?_
    have bad5 := hmod5.own bad4 hs1.symm
    have cut5 := hmod5.own cut4 hs2.symm
    have m5 := m4.mod hmod5 (ok4.neM' m4)
    have hob5 : OBlk W5 ob 72 dv iv pv o := (hob.ext e4).mod hmod5 (ok4.neK (hob.ext e4 : Kp ob (ObC dv iv pv o) 72 W4) (by decide))
    have hO5 : IsOb W5 dv iv pv o := ((hOw.ext E24).modLow hmod5 hltv).isOb
    have t1 : Sep tv' bv := (hs1.symm.grown (own_le bad4) hat5).symm
    have t2 : Sep tv' nk := (hs2.symm.grown (own_le cut4) hat5).symm
    refine does_of (run_load_o hO5 hob5) ((refs_spec hO5 (Nat.le_trans (hrefs hg) (by omega))).mono fun rv W6 ⟨hE6, ho6⟩ => ?_)
    have cut6 := cut5.ext hE6
    have hll3 := hrefs hg
    refine cut6.push3 (E05.trans hE6) ho6.row (by simp; omega) fun nk' W7 cut7 E07 hmod7 hat7 => ?_
    have ok6 := ok5.ext hE6
    have bad6 := bad5.ext hE6
    refine hnext ⟨tv', bv, nk', ins kvs x (.int .i64 1), st.take (st.length - 1) ++ refsOf o⟩ _ _ _ W7 rfl rfl rfl ⟨E07, (m5.ext hE6).mod hmod7 (cut6.neM' (m5.ext hE6)), ?_, ?_, cut7, t1, t2.grown (own_le ok6) hat7, hs3.grown (own_le bad6) hat7, ?_⟩ ?_
    · simp only
      rw [hfo]
      exact hmod7.own ok6 t2
    · simp only
      rw [hfb]
      exact hmod7.own bad6 hs3
    · simp only
      rw [hkeys, ← hx]
      exact hp.ok h0 (by rw [hx]; exact hg) (Nat.le_trans hll3 (by omega))
    · simp only [hkeys, List.length_append, List.length_take, List.length_cons, List.length_nil]
      omega
  · -- no object
    refine ex2a (ex2b (alloc rfl fun W3 ob hE3 hob hO3 => does_of (run_not W3) ?_))
    rw [show (!false) = true from rfl, condP_true]
    have e4 := ext_any (.cells #[.string x] 9) W3
    have o4 := own_one_str x W3
    refine does_of (run_one_str x W3) ?_
    generalize W3.alloc (.cells #[.string x] 9) = W4 at e4 o4
    have E24 := hE3.trans e4
    have E04 := hE02.trans E24
    have hfo : (keysOf (ins kvs x (.int .i64 1))).filter (isO ls) = (keysOf kvs).filter (isO ls) := by
      rw [hkeys, List.filter_append]
      simp [isO, hg]
    have hfb : (keysOf (ins kvs x (.int .i64 1))).filter (fun y => !isO ls y) = ((keysOf kvs).filter fun y => !isO ls y) ++ [x] := by
      rw [hkeys, List.filter_append]
      simp [isO, hg]
    have hfl : ((keysOf kvs).filter fun y => !isO ls y).length ≤ 2000 := Nat.le_trans (List.length_filter_le _ _) (by omega)
    have ok4 := ok2.ext E24
    have bad4 := bad2.ext E24
    have cut4 := cut2.ext E24
    have m4 := m2.ext E24
    refine bad4.push3 E04 o4.row (by simp; omega) fun bv' W5 bad5 E05 hmod5 hat5 => ?_
    have t1 : Sep tv bv' := hs1.grown (own_le ok4) hat5
    have t3 : Sep bv' nk := (hs3.symm.grown (own_le cut4) hat5).symm
    refine hnext ⟨tv, bv', nk, ins kvs x (.int .i64 1), st.take (st.length - 1)⟩ _ _ _ W5 rfl rfl rfl ⟨E05, m4.mod hmod5 (bad4.neM' m4), ?_, ?_, hmod5.own cut4 hs3.symm, t1, hs2, t3, ?_⟩ ?_
    · simp only
      rw [hfo]
      exact hmod5.own ok4 hs1
    · simp only
      rw [hfb]
      exact bad5
    · simp only
      rw [hkeys, ← hx]
      exact hp.bad h0 (by rw [hx]; exact hg)
    · simp only [hkeys, List.length_append, List.length_take, List.length_cons, List.length_nil]
      omega
end Go.Proofs.Ytcncgkkilgmphaa
