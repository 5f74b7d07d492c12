/-
  Contract: the source asked, reach.Source.object.
-/
import Derived.Test.YtcncgkkilgmphaaCa
set_option linter.unusedVariables false
set_option linter.unusedSimpArgs false
namespace Go.Proofs.Ytcncgkkilgmphaa
open Go Go.RowKit

theorem srcF_at {ls : List (List UInt8)} {x : ByteArray} {i : Nat} (hi : i < ls.length) (h : idOf ls[i] = x) (hn : ∀ l ∈ ls.take i, idOf l ≠ x) : srcF ls x = some ls[i] := by
  unfold srcF
  have e : ls = ls.take i ++ ls[i] :: ls.drop (i + 1) := by rw [List.getElem_cons_drop, List.take_append_drop]
  have h0 : (ls.take i).find? (fun l => decide (idOf l = x)) = none := List.find?_eq_none.2 fun l hl => by simpa using hn l hl
  conv => lhs; rw [e]
  rw [List.find?_append, h0, Option.none_or, List.find?_cons_of_pos (by simpa using h)]
theorem srcF_no {ls : List (List UInt8)} {x : ByteArray} (hn : ∀ l ∈ ls, idOf l ≠ x) : srcF ls x = none := List.find?_eq_none.2 fun l hl => by simpa using hn l hl
theorem callV_mono {P : Program} {fv : Value} {args : Array Value} {w : World} {k k' : Value → World → Prop} (h : CallV P fv args w k) (hk : ∀ v w', k v w' → k' v w') : CallV P fv args w k' :=
  let ⟨f, a, b, h1, h2⟩ := h; ⟨f, a, b, h1, h2.mono hk⟩
def SrcR (w w' : World) (ls : List (List UInt8)) (x : ByteArray) (r : Value) : Prop :=
  (∃ l bv, srcF ls x = some l ∧ r = .tuple #[bv, .bool true] ∧ OwnB w w' bv l) ∨ (srcF ls x = none ∧ r = .tuple #[.slice none 0 0, .bool false])
theorem source_call {w : World} {fv : Value} {ls : List (List UInt8)} {base lb eb ib : Nat} {lv sv : Value} (hs : IsSrc w fv ls false base lb eb ib lv sv) (hll : ∀ l ∈ ls, l.length ≤ 1048576) (x : ByteArray) :
    CallV Try.prog fv #[.string x] w fun r w' => Ext w w' ∧ SrcR w w' ls x r := by
  refine ⟨_, _, _, hs.fv, ?_⟩
  apply vc45
  unfold V45
  obtain ⟨vs, hr, hvl, hvr⟩ := id hs.rows
  refine rounds1 (σ := Nat) (fun i => .int .i64 ((i : Nat) : Int)) (fun i W => i ≤ ls.length ∧ Ext w W ∧ ∀ l ∈ ls.take i, idOf l ≠ x) (fun i _ => ls.length - i) 0 rfl ⟨Nat.zero_le _, Ext.refl _, by simp⟩ ?_
  rintro next i W ⟨hi, hE, hn⟩ hnext _
  refine does_load1 agg_rows ((hs.l.ext hE).cell rfl) ((hr.ext hE).len u_rows ?_)
  rw [hvl]
  have hle := hr.len_le
  refine does_lt (condP_of (fun hlt => ?_) fun hge => ?_)
  · have hlt : i < ls.length := by simpa using hlt
    refine join1 (fun t W' => W' = W ∧ t = .int .i64 (i : Nat)) ?_ (fun j hj => ?_)
    rotate_left
    · exact does_load1 agg_bool ((hs.e.ext hE).cell rfl) (condP_of (fun h => by cases h) fun _ => hj _ _ ⟨rfl, rfl⟩)
    rintro t W' ⟨rfl, rfl⟩ _
    have hrow : Row W' sv (strsV (ls.map idOf)) := (hs.ids.ext hE).row
    refine does_load1 agg_strsl ((hs.i.ext hE).cell rfl) (hrow.index u_strs sz_str (by simpa using hlt) fun p hp => does_load1 agg_str hp ?_)
    rw [strsV_get (by simpa using hlt), List.getElem_map]
    refine does_of (run_eqS W') (condP_of (fun he => ?_) fun he => ?_)
    · have he : idOf ls[i] = x := by simpa using he
      refine does_load1 agg_rows ((hs.l.ext hE).cell rfl) ((hr.ext hE).index u_rows sz_bytesl (by omega) fun p hp => does_load1 agg_bytes hp ?_)
      refine (copyBytes_spec ((hvr i (by omega) hlt).ext hE) (Nat.le_trans (hll _ (List.getElem_mem hlt)) (by omega))).mono fun bv W2 ⟨h1, h2⟩ => ⟨hE.trans h2, .inl ⟨_, bv, srcF_at hlt he hn, rfl, h1.back hE⟩⟩
    · have he : idOf ls[i] ≠ x := by simpa using he
      refine does_add (by omega) (by omega) (hnext (i + 1) _ W' rfl ⟨hlt, hE, fun l hl => ?_⟩ (by omega))
      rw [List.take_succ_eq_append_getElem hlt] at hl
      rcases List.mem_append.1 hl with hl | hl
      · exact hn l hl
      · rw [List.mem_singleton.1 hl]; exact he
  · have : i = ls.length := by simp at hge; omega
    subst this
    rw [List.take_length] at hn
    exact ⟨hE, .inr ⟨srcF_no hn, rfl⟩⟩
/-- an object asked for -/
def GetR (w w' : World) (ls : List (List UInt8)) (x : ByteArray) (r : Value) : Prop :=
  Ext w w' ∧ ∃ dv iv pv o, OwnOb w w' 106 dv iv pv o ∧ ((getO ls x = some o ∧ r = .tuple #[ObV dv iv pv o, .bool true]) ∨ (getO ls x = none ∧ r = .tuple #[ObV dv iv pv o, .bool false]))
theorem object_spec {w : World} {fv : Value} {ls : List (List UInt8)} {base lb eb ib : Nat} {lv sv : Value} (hs : IsSrc w fv ls false base lb eb ib lv sv) (hll : ∀ l ∈ ls, l.length ≤ 1048576) (x : ByteArray) :
    Call Try.prog 49 #[fv, .string x] w fun r w' => GetR w w' ls x r := by
  apply vc49
  unfold V49
  refine does_of (run_alloc_o w) ?_
  have hE1 := ext_any (.cells (ObC (.slice none 0 0) (.slice none 0 0) (.slice none 0 0) ob0) 72) w
  have hb1 : OBlk (w.alloc (.cells (ObC (.slice none 0 0) (.slice none 0 0) (.slice none 0 0) ob0) 72)) w.heap.size 72 (.slice none 0 0) (.slice none 0 0) (.slice none 0 0) ob0 := heap_alloc_new w _
  generalize w.alloc (.cells (ObC (.slice none 0 0) (.slice none 0 0) (.slice none 0 0) ob0) 72) = w1 at hE1 hb1
  refine callV_mono (source_call (hs.ext hE1) hll x) fun r w2 ⟨hE2, hr⟩ => ?_
  rcases hr with ⟨l, bv, hsr, rfl, hob⟩ | ⟨hsr, rfl⟩
  · refine ex2a (ex2b (does_of (run_not w2) ?_))
    rw [show (!true) = false from rfl, condP_false]
    refine (decode_spec hob.row (hll _ (srcF_mem hsr))).mono fun r w3 ⟨hE3, hd⟩ => ?_
    -- what has been decoded is handed on
    have done : ∀ {dv iv pv : Value} {o : Ob} {e : Int} {b : Bool}, OwnOb w2 w3 106 dv iv pv o → b = decide (e = 0) → (∀ w' , Ext w w' → OwnOb w w' 106 dv iv pv o → GetR w w' ls x (.tuple #[ObV dv iv pv o, .bool b])) →
        Does Try.prog (Instr.alloc 72 true (.tuple #[])) w3 fun o8 W => Does Try.prog (Instr.storeAt 72 o8 (ObV dv iv pv o)) W fun _ W => Does Try.prog (Instr.loadAt 72 o8) W fun t24 W =>
          Does Try.prog (eqE .eql 29 (.tmp 25) (.const (.int .i64 0)) (.int .i64 e) (.int .i64 0)) W fun t26 W => Does Try.prog (Instr.storeAt 72 (.pointer (some ⟨w.heap.size, 0, none⟩)) t24) W fun _ W =>
            SameP Try.prog (loadRes 72 (.pointer (some ⟨w.heap.size, 0, none⟩))) W fun r0 => GetR w W ls x (.tuple #[r0, t26]) := by
      intro dv iv pv o e b hO hb hK
      refine does_of (run_alloc_o w3) ?_
      have hE4 := ext_any (.cells (ObC (.slice none 0 0) (.slice none 0 0) (.slice none 0 0) ob0) 72) w3
      have hb4 : OBlk (w3.alloc (.cells (ObC (.slice none 0 0) (.slice none 0 0) (.slice none 0 0) ob0) 72)) w3.heap.size 72 (.slice none 0 0) (.slice none 0 0) (.slice none 0 0) ob0 := heap_alloc_new w3 _
      generalize w3.alloc (.cells (ObC (.slice none 0 0) (.slice none 0 0) (.slice none 0 0) ob0) 72) = w4 at hE4 hb4
      have hO4 := hO.ext hE4
      obtain ⟨w5, s1, s2, s3⟩ := run_store_o hO4.isOb hb4
      have hO5 := hO4.mod (hb4 : Kp w3.heap.size zObC 72 w4) (by decide) (by decide) (by decide) s3
      refine does_of s1 (does_of (run_load_o hO5.isOb s2) (does_of (run_eqI w5) ?_))
      have hEm : Ext w3 w5 := Mod.ext hE4 s3 fun k hk => by cases hk; exact Nat.le_refl _
      have hb5 := (hb1.ext (hE2.trans hE3)).ext hEm
      obtain ⟨w6, t1, t2, t3⟩ := run_store_o hO5.isOb hb5
      have hE13 : Ext w w3 := hE1.trans (hE2.trans hE3)
      have hO6 := (hO5.mod (hb5 : Kp w.heap.size zObC 72 w5) (by decide) (by decide) (by decide) t3).back (hE1.trans hE2).size
      refine does_of t1 (same_load_o hO6.isOb t2 ?_)
      rw [← hb]
      exact hK w6 (Mod.ext (hE13.trans hEm) t3 fun k hk => by cases hk; exact Nat.le_refl _) hO6
    rcases hd with ⟨o, dv, iv, pv, hmay, hen, rfl, hO⟩ | ⟨hno, rfl⟩
    · refine ex2a (ex2b (done hO rfl fun w' hE hO' => ⟨hE, dv, iv, pv, o, hO', .inl ⟨?_, rfl⟩⟩))
      unfold getO
      rw [hsr, ← hen]
      exact decO_of hmay
    · refine ex2a (ex2b (done (o := ob0) ⟨OwnB.nil _ _, Own3.nil _ _ _, Own.nil _ _ _⟩ (b := false) ?_ fun w' hE hO' => ⟨hE, _, _, _, ob0, hO', .inr ⟨?_, rfl⟩⟩))
      · split <;> rfl
      unfold getO
      rw [hsr]
      exact decO_none.2 hno
  · refine ex2a (ex2b (does_of (run_not w2) ?_))
    rw [show (!false) = true from rfl, condP_true]
    refine does_of (run_new_o w2) ?_
    obtain ⟨W2, s1, s2, s3⟩ := run_store_o (isOb0 w2) (hb1.ext hE2)
    refine does_of s1 (same_load_o (isOb0 W2) s2 ⟨Mod.ext (hE1.trans hE2) s3 fun k hk => by cases hk; exact Nat.le_refl _, _, _, _, ob0, ⟨OwnB.nil _ _, Own3.nil _ _ _, Own.nil _ _ _⟩, .inr ⟨?_, rfl⟩⟩)
    unfold getO
    rw [hsr]
    rfl
end Go.Proofs.Ytcncgkkilgmphaa
