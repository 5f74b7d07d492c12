/-
  Contract: reach.Whole; marlaw10.Few, marlaw12.few.
  Contract: marlaw12.first.
  The law ReachClosed, its function.
-/
import Derived.Test.YtcncgkkilgmphaaCd
set_option linter.unusedVariables false
set_option linter.unusedSimpArgs false
namespace Go.Proofs.Ytcncgkkilgmphaa
open Go Go.RowKit

theorem whole_spec {w : World} {fv av : Value} {ls : List (List UInt8)} {base lb eb ib most : Nat} {lv sv : Value} {a U : List ByteArray} (hs : IsSrc w fv ls false base lb eb ib lv sv) (hll : ∀ l ∈ ls, l.length ≤ 1048576)
    (ha : Row w av (strsV a)) (hal : a.length ≤ 1048576) (hm1 : 1 ≤ most) (hm2 : most ≤ 2000) (hU : ∀ x, Rch ls a x → x ∈ U) (hUl : U.length ≤ most) :
    Call Try.prog 17 #[fv, av, .int .i64 most] w fun r w' => Ext w w' ∧ ∃ mis, r = .bool (decide (mis.length = 0)) ∧ Strict mis ∧ ∀ x, x ∈ mis ↔ Rch ls a x ∧ isO ls x = false := by
  apply vc17
  unfold V17
  refine (closure_spec hs hll ha hal hm1 hm2 hU hUl).mono fun r w1 ⟨hE, mv, nv, met, mis, hr, h1, h2, h3, h4, h5, h6⟩ => ?_
  subst hr
  refine ex3a (ex3b (ex3c (does_of (run_eqI w1) ?_)))
  rw [show decide ((0 : Int) = 0) = true from rfl]
  refine and_join (decide (mis.length = 0)) (fun _ j hj => h2.row.len u_strs (does_of (run_eqI w1) ?_)) ⟨hE, mis, by simp, h4, h6⟩
  rw [show decide ((((strsV mis).length : Nat) : Int) = 0) = decide (mis.length = 0) by simp]
  exact hj
theorem run_min {P : Program} {t1 t2 ty : TypeId} {a b : Int} (w : World) : (Builtin.min_ #[t1, t2] ty #[.int .i64 a, .int .i64 b]).run P w = .ok (.int .i64 (min a b)) w := by
  simp [Builtin.min_, Builtin.min2, go_sem]
  split <;> omega
def sumLen (ls : List (List UInt8)) : Nat := (ls.map (·.length)).sum
structure FewSt where
  n : Nat
  i : Nat
theorem few_spec {w : World} {lv : Value} {ls : List (List UInt8)} (hr : RowsB w lv ls) : Call Try.prog 7 #[lv] w fun v w' => w' = w ∧ ∃ b : Bool, v = .bool b ∧ (b = true → ls.length ≤ 40 ∧ (∀ l ∈ ls, l.length ≤ 1500) ∧ sumLen ls ≤ 6000) := by
  apply vc7
  unfold V7
  obtain ⟨vs, hr1, hvl, hvr⟩ := id hr
  have hle := hr1.len_le
  refine rounds2 (σ := FewSt) (fun s => .int .i64 ((s.n : Nat) : Int)) (fun s => .int .i64 ((s.i : Nat) : Int)) (fun s W => W = w ∧ s.i ≤ ls.length ∧ s.i ≤ 40 ∧ (∀ l ∈ ls.take s.i, l.length ≤ 1500) ∧ s.n = min (sumLen (ls.take s.i)) 24000) (fun s _ => ls.length - s.i) ⟨0, 0⟩ rfl rfl ⟨rfl, by simp, by simp, by simp, by simp [sumLen]⟩ ?_
  rintro next ⟨n, i⟩ W ⟨rfl, hi, hi40, hsm, hn⟩ hnext _
  simp only at hi hi40 hsm hn ⊢
  refine hr1.len u_rows (does_lt ?_)
  rw [hvl]
  refine and_join (decide (i < 40)) (fun _ j hj => does_lt ?_) ?_
  · rw [show decide (((i : Nat) : Int) < 40) = decide (i < 40) by simp; omega]
    exact hj
  refine condP_of (fun hc => ?_) fun hc => ?_
  · simp only [Bool.and_eq_true, decide_eq_true_eq] at hc
    have hlt : i < ls.length := by have := hc.1; omega
    have hrow := hvr i (by omega) hlt
    refine hr1.index u_rows sz_bytesl (by omega) fun p hp => does_load1 agg_bytes hp ?_
    refine hrow.len u_bytes (does_of (run_min W) ?_)
    rw [bytesV_length]
    refine does_add (by omega) (by omega) (does_of (run_min W) ?_)
    refine hr1.index u_rows sz_bytesl (by omega) fun p hp => does_load1 agg_bytes hp ?_
    refine hrow.len u_bytes (does_gt ?_)
    rw [bytesV_length]
    refine condP_of (fun hgt => ⟨rfl, false, rfl, by simp⟩) fun hle => ?_
    have hle : ls[i].length ≤ 1500 := by simp at hle; omega
    refine does_add (by omega) (by omega) (hnext ⟨min (n + ls[i].length) 24000, i + 1⟩ _ _ W (by congr 1; simp only; omega) (by congr 1) ⟨rfl, hlt, hc.2, fun l hl => ?_, ?_⟩ (by simp only; omega))
    · simp only at hl
      rw [List.take_succ_eq_append_getElem hlt] at hl
      rcases List.mem_append.1 hl with hl | hl
      · exact hsm l hl
      · rw [List.mem_singleton.1 hl]; exact hle
    · simp only
      rw [List.take_succ_eq_append_getElem hlt]
      unfold sumLen at *
      rw [List.map_append, List.sum_append]
      simp only [List.map_cons, List.map_nil, List.sum_cons, List.sum_nil]
      omega
  · refine hr1.len u_rows (does_le ?_)
    rw [hvl]
    refine and_join (decide (n ≤ 6000)) (fun _ j hj => does_le ?_) ?_
    · rw [show decide (((n : Nat) : Int) ≤ 6000) = decide (n ≤ 6000) by simp; omega]
      exact hj
    refine ⟨rfl, _, rfl, fun h => ?_⟩
    simp only [Bool.and_eq_true, decide_eq_true_eq, Bool.and_eq_false_iff, decide_eq_false_iff_not] at h hc
    have hil : i = ls.length := by omega
    subst hil
    rw [List.take_length] at hsm hn
    exact ⟨by omega, hsm, by omega⟩
theorem few12_spec {w : World} {av : Value} {a : List ByteArray} (hr : Row w av (strsV a)) : Call Try.prog 8 #[av] w fun v w' => w' = w ∧ ∃ b : Bool, v = .bool b ∧ (b = true → a.length ≤ 20) := by
  apply vc8
  unfold V8
  have hle := hr.len_le
  have hlen : (strsV a).length = a.length := by simp
  refine rounds1 (σ := Nat) (fun i => .int .i64 ((i : Nat) : Int)) (fun i W => W = w ∧ i ≤ 20) (fun i _ => 20 - i) 0 rfl ⟨rfl, by omega⟩ ?_
  rintro next i W ⟨rfl, hi⟩ hnext _
  refine hr.len u_strs (does_lt ?_)
  rw [hlen]
  refine and_join (decide (i < 20)) (fun _ j hj => does_lt ?_) ?_
  · rw [show decide (((i : Nat) : Int) < 20) = decide (i < 20) by simp; omega]
    exact hj
  refine condP_of (fun hc => ?_) fun hc => ?_
  · simp only [Bool.and_eq_true, decide_eq_true_eq] at hc
    have hlt : i < a.length := by have := hc.1; omega
    refine hr.index u_strs sz_str (by rw [hlen]; exact hlt) fun p hp => does_load1 agg_str hp ?_
    rw [strsV_get hlt]
    refine does_of (run_lenStr _ W) (does_gt (condP_of (fun _ => ⟨rfl, false, rfl, by simp⟩) fun _ => ?_))
    exact does_add (by omega) (by omega) (hnext (i + 1) _ W (by congr 1) ⟨rfl, hc.2⟩ (by omega))
  · refine hr.len u_strs (does_le ?_)
    rw [hlen]
    exact ⟨rfl, _, rfl, fun h => by simp at h; omega⟩
end Go.Proofs.Ytcncgkkilgmphaa

set_option linter.unusedVariables false
set_option linter.unusedSimpArgs false
namespace Go.Proofs.Ytcncgkkilgmphaa
open Go Go.RowKit

def tO : Ob := { ob0 with kind := 2 }
def cO : Ob := { ob0 with kind := 3, tree := idOf (enc tO) }
theorem may_tO : May tO := .inr (.inl ⟨rfl, rfl, ⟨by simp [tO, ob0], List.Pairwise.nil, by simp [tO, ob0]⟩, ⟨rfl, rfl, rfl, rfl, rfl⟩⟩)
theorem msg_noS : MsgOk noS := ⟨by simp [noS, bs], by simp [noS, bs]⟩
theorem may_cO : May cO := .inr (.inr ⟨rfl, rfl, rfl, valid_hex (sumL_length _), ⟨by simp [cO, ob0], List.Pairwise.nil, by simp [cO, ob0]⟩, by simp [cO, ob0], by simp [cO, ob0], by simp [cO, ob0], by simp [cO, ob0], msg_noS⟩)
theorem ids_beq : (idOf (enc tO) == idOf (enc cO)) = false := by kernel_rfl
theorem ids_ne : idOf (enc tO) ≠ idOf (enc cO) := fun e => by
  have := ids_beq
  rw [e] at this
  simp at this
theorem get_tO : getO [enc tO, enc cO] (idOf (enc tO)) = some tO := by
  unfold getO srcF
  rw [List.find?_cons_of_pos (by simp)]
  exact decO_of may_tO
theorem get_cO : getO [enc tO, enc cO] (idOf (enc cO)) = some cO := by
  unfold getO srcF
  rw [List.find?_cons_of_neg (by simpa using ids_ne), List.find?_cons_of_pos (by simp)]
  exact decO_of may_cO
theorem rch_first {x : ByteArray} (h : Rch [enc tO, enc cO] [idOf (enc cO)] x) : x = idOf (enc cO) ∨ x = idOf (enc tO) := by
  induction h with
  | start hx => exact .inl (List.mem_singleton.1 hx)
  | step _ ho hy ih =>
    rcases ih with rfl | rfl
    · rw [get_cO] at ho
      cases ho
      right
      simpa [refsOf, cO, ob0] using hy
    · rw [get_tO] at ho
      cases ho
      simp [refsOf, tO, ob0] at hy
theorem short_of {s : ByteArray} (h : Valid s) : Short s := by
  obtain ⟨l, h1, h2⟩ := h
  have := unhex_len _ _ h1
  unfold Short
  omega
theorem len_tO : (enc tO).length = 2 := by kernel_rfl
theorem len_cO : (enc cO).length = 37 := by kernel_rfl
theorem run_commit (s : ByteArray) (w : World) : (Instr.build 72 #[(0, .int .i64 3), (3, .string s)]).run Try.prog w = .ok (ObV (.slice none 0 0) (.slice none 0 0) (.slice none 0 0) { ob0 with kind := 3, tree := s }) w := by
  simp [go_sem, Instr.build, ObV, ObC, ob0, noS]
theorem run_rows2 {a1 a2 : Option Addr} {n1 c1 n2 c2 : Nat} (w : World) : (Instr.buildSlice 22 2 #[(0, .slice a1 n1 c1), (1, .slice a2 n2 c2)]).run Try.prog w = .ok (.slice (some ⟨w.heap.size, 0, none⟩) 2 2) (w.alloc (.cells #[.slice a1 n1 c1, .slice a2 n2 c2] 34)) := by
  simp [go_sem, Instr.buildSlice]
theorem rows2 {w : World} {v1 v2 : Value} {l1 l2 : List UInt8} (h1 : Row w v1 (bytesV l1)) (h2 : Row w v2 (bytesV l2)) : RowsB (w.alloc (.cells #[v1, v2] 34)) (.slice (some ⟨w.heap.size, 0, none⟩) 2 2) [l1, l2] := by
  have e := ext_any (.cells #[v1, v2] 34) w
  have hk : Kp w.heap.size #[v1, v2] 34 (w.alloc (.cells #[v1, v2] 34)) := heap_alloc_new w _
  refine ⟨[v1, v2], ⟨_, _, rfl, ⟨by simp [maxLen], by simp⟩, fun j x hj => ⟨_, rfl, ?_⟩⟩, rfl, fun i h h' => ?_⟩
  · have ha : (⟨w.heap.size, 0, none⟩ : Addr).add j = ⟨w.heap.size, j, none⟩ := by unfold Addr.add; split <;> simp_all
    rw [ha]
    exact hk.cell (by simpa using hj)
  · match i, h, h' with
    | 0, _, _ => exact h1.ext e
    | 1, _, _ => exact h2.ext e
theorem first_spec {w : World} : Call Try.prog 6 #[] w fun v w' => v = .bool true ∧ Ext w w' := by
  refine vc6 (_u := ()) ?_
  unfold V6
  refine does_of (run_kind_o 2 w) ?_
  refine (encode_spec (o := tO) ⟨(isOb0 w).data, (isOb0 w).items, (isOb0 w).pars⟩ ⟨by simp [tO, ob0], by simp [tO, ob0], by simp [tO, ob0], by simp [tO, ob0, noS, Short, bs], by simp [tO, ob0], by simp [tO, ob0, noS, Short, bs]⟩).mono fun r w1 ⟨hE1, hr⟩ => ?_
  obtain ⟨tv, rfl, ht⟩ : ∃ s, r = .tuple #[s, .int .i64 0] ∧ OwnB w w1 s (enc tO) := by
    rcases hr with ⟨_, h⟩ | ⟨h, _⟩
    · exact h
    · exact absurd may_tO h
  refine ex2a (ex2b ?_)
  refine (id_spec ht.row (by rw [len_tO]; omega)).mono fun r w2 ⟨hr, hE2⟩ => ?_
  subst hr
  refine does_of (run_commit _ w2) ?_
  refine (encode_spec (o := cO) ⟨(isOb0 w2).data, (isOb0 w2).items, (isOb0 w2).pars⟩ ⟨by simp [cO, ob0], by simp [cO, ob0], by simp [cO, ob0], short_of (valid_hex (sumL_length _)), by simp [cO, ob0], by simp [cO, ob0, noS, Short, bs]⟩).mono fun r w3 ⟨hE3, hr⟩ => ?_
  obtain ⟨cv, rfl, hc⟩ : ∃ s, r = .tuple #[s, .int .i64 0] ∧ OwnB w2 w3 s (enc cO) := by
    rcases hr with ⟨_, h⟩ | ⟨h, _⟩
    · exact h
    · exact absurd may_cO h
  refine ex2a (ex2b ?_)
  have ht3 := (ht.row.ext hE2).ext hE3
  have hc3 := hc.row
  have hrows := rows2 ht3 hc3
  have e4 := ext_any (.cells #[tv, cv] 34) w3
  obtain ⟨ta, tc, htv⟩ := ht3.slice
  obtain ⟨ca, cc, hcv⟩ := hc3.slice
  refine does_of (by rw [htv, hcv]; exact run_rows2 w3) ?_
  rw [← htv, ← hcv]
  generalize w3.alloc (.cells #[tv, cv] 34) = w4 at hrows e4 ⊢
  have hcl : (enc cO).length ≤ 1048576 := by rw [len_cO]; omega
  have hll : ∀ l ∈ [enc tO, enc cO], l.length ≤ 1048576 := fun l hl => by
    simp only [List.mem_cons, List.not_mem_nil, or_false] at hl
    rcases hl with rfl | rfl
    · rw [len_tO]; omega
    · exact hcl
  refine (source_spec (lie := false) hrows hll (by simp)).mono fun fv w5 ⟨hE5, lb, eb, ib, sv, hs⟩ => ?_
  refine (id_spec ((hc3.ext e4).ext hE5) hcl).mono fun r w6 ⟨hr, hE6⟩ => ?_
  subst hr
  have e7 := ext_any (.cells #[.string (idOf (enc cO))] 9) w6
  have o7 := own_one_str (idOf (enc cO)) w6
  refine does_of (run_one_str _ w6) ?_
  generalize w6.alloc (.cells #[.string (idOf (enc cO))] 9) = w7 at e7 o7 ⊢
  refine (closure_spec (most := 10) (U := [idOf (enc cO), idOf (enc tO)]) ((hs.ext hE6).ext e7) hll o7.row (by simp) (by omega) (by omega) (fun x hx => by simpa using rch_first hx) (by simp)).mono fun r w8 ⟨hE8, mv, nv, met, mis, hr, h1, h2, h3, h4, h5, h6⟩ => ?_
  subst hr
  have hE : Ext w w8 := hE1.trans (hE2.trans (hE3.trans (e4.trans (hE5.trans (hE6.trans (e7.trans hE8))))))
  have hmis : mis = [] := by
    cases mis with
    | nil => rfl
    | cons x l =>
      obtain ⟨g1, g2⟩ := (h6 x).1 (by simp)
      rcases rch_first g1 with rfl | rfl
      · simp [isO, get_cO] at g2
      · simp [isO, get_tO] at g2
  have hrc : Rch [enc tO, enc cO] [idOf (enc cO)] (idOf (enc cO)) := Rch.start (by simp)
  have hmet : met.length = 2 := by
    have hle : met.length ≤ 2 := nodup_le2 (m := [idOf (enc cO), idOf (enc tO)]) h3.nodup fun x hx => by simpa using rch_first ((h5 x).1 hx).1
    have hge : 2 ≤ met.length := nodup_le2 (l := [idOf (enc cO), idOf (enc tO)]) (by simp; exact Ne.symm ids_ne) fun x hx => by
      rw [h5]
      simp only [List.mem_cons, List.not_mem_nil, or_false] at hx
      rcases hx with rfl | rfl
      · exact ⟨hrc, by simp [isO, get_cO]⟩
      · exact ⟨Rch.step hrc get_cO (by simp [refsOf, cO, ob0]), by simp [isO, get_tO]⟩
    omega
  subst hmis
  refine ex3a (ex3b (ex3c (does_of (run_eqI w8) ?_)))
  refine and_join (b1 := true) true (fun _ j hj => h1.row.len u_strs (does_of (run_eqI w8) ?_)) ?_
  · rw [show decide ((((strsV met).length : Nat) : Int) = 2) = true by simp [hmet]]
    exact hj
  refine and_join (b1 := true) true (fun _ j hj => h2.row.len u_strs (does_of (run_eqI w8) hj)) ⟨rfl, hE⟩
end Go.Proofs.Ytcncgkkilgmphaa

set_option linter.unusedVariables false
set_option linter.unusedSimpArgs false
namespace Go.Proofs.Ytcncgkkilgmphaa
open Go Go.RowKit

noncomputable def named (l : List UInt8) : List ByteArray := ((decO l).map refsOf).getD []
noncomputable def uni (ls : List (List UInt8)) (a : List ByteArray) : List ByteArray := a ++ ls.flatMap named
theorem named_len (l : List UInt8) : 32 * (named l).length ≤ l.length := by
  unfold named
  cases h : decO l with
  | none => simp
  | some o =>
    obtain ⟨h1, h2⟩ := decO_some h
    have := refs_len h1
    rw [h2] at this
    exact this
theorem nameds_len : ∀ ls : List (List UInt8), 32 * (ls.flatMap named).length ≤ sumLen ls
  | [] => by simp
  | l :: ls => by
    have h1 := named_len l
    have h2 := nameds_len ls
    simp only [List.flatMap_cons, List.length_append, sumLen, List.map_cons, List.sum_cons] at h2 ⊢
    omega
theorem uni_len {ls : List (List UInt8)} {a : List ByteArray} (h : sumLen ls ≤ 6000) (ha : a.length ≤ 20) : (uni ls a).length ≤ 2000 := by
  have := nameds_len ls
  unfold uni
  rw [List.length_append]
  omega
theorem uni_rch {ls : List (List UInt8)} {a : List ByteArray} : ∀ {x}, Rch ls a x → x ∈ uni ls a := fun h => by
  cases h with
  | start hx => exact List.mem_append.2 (.inl hx)
  | step _ ho hy =>
    obtain ⟨l, h1, h2⟩ := Option.bind_eq_some_iff.1 (by unfold getO at ho; exact ho)
    refine List.mem_append.2 (.inr (List.mem_flatMap.2 ⟨l, srcF_mem h1, ?_⟩))
    unfold named
    rw [h2]
    exact hy
theorem usort_len {l : List ByteArray} (h : l.Nodup) : (usort l).length = l.length :=
  Nat.le_antisymm (usort_length_le l) (nodup_le2 h fun x hx => mem_usort.2 hx)
theorem run_neB2 {x y : Operand} {a b : Bool} (w : World) : (eqE .neq 4 x y (.bool a) (.bool b)).run Try.prog w = .ok (.bool (!decide (a = b))) w := by
  cases a <;> cases b <;> kernel_rfl
theorem run_eqB2 {x y : Operand} {a b : Bool} (w : World) : (eqE .eql 4 x y (.bool a) (.bool b)).run Try.prog w = .ok (.bool (decide (a = b))) w := by
  cases a <;> cases b <;> kernel_rfl
/-- the source asked and what it said decoded -/
theorem asked {w : World} {fv : Value} {ls : List (List UInt8)} {base lb eb ib : Nat} {lv sv : Value} (hs : IsSrc w fv ls false base lb eb ib lv sv) (hll : ∀ l ∈ ls, l.length ≤ 1048576) (x : ByteArray)
    {K : Value → Value → Value → World → Prop}
    (hK : ∀ (bv : Value) (ok : Bool) dv iv pv o e W, Ext w W → OwnOb w W 87 dv iv pv o → (ok && decide (e = 0)) = isO ls x → (isO ls x = true → getO ls x = some o) → (isO ls x = false → o = ob0) → K (.bool ok) (ObV dv iv pv o) (.int .i64 e) W) :
    CallV Try.prog fv #[.string x] w fun t85 w => Does Try.prog (Instr.extract t85 0) w fun t86 w => Does Try.prog (Instr.extract t85 1) w fun t87 w =>
      Call Try.prog 15 #[t86] w fun t90 w => Does Try.prog (Instr.extract t90 0) w fun t91 w => Does Try.prog (Instr.extract t90 1) w fun t92 w => K t87 t91 t92 w := by
  refine callV_mono (source_call hs hll x) fun r w2 ⟨hE2, hr⟩ => ?_
  rcases hr with ⟨l, bv, hsr, rfl, hob⟩ | ⟨hsr, rfl⟩
  · refine ex2a (ex2b ((rdecode_spec hob.row (hll _ (srcF_mem hsr))).mono fun r w3 ⟨hE3, hd⟩ => ?_))
    rcases hd with ⟨o, dv, iv, pv, hmay, hen, rfl, hO⟩ | ⟨hno, rfl⟩
    · have hg : getO ls x = some o := by
        unfold getO
        rw [hsr, ← hen]
        exact decO_of hmay
      exact ex2a (ex2b (hK bv _ _ _ _ o 0 w3 (hE2.trans hE3) (hO.back hE2.size) (by simp [isO, hg]) (fun _ => hg) (fun h => by simp [isO, hg] at h)))
    · have hg : getO ls x = none := by
        unfold getO
        rw [hsr]
        exact decO_none.2 hno
      refine ex2a (ex2b (hK bv _ _ _ _ ob0 _ w3 (hE2.trans hE3) ⟨OwnB.nil _ _, Own3.nil _ _ _, Own.nil _ _ _⟩ ?_ (fun h => by simp [isO, hg] at h) (fun _ => rfl)))
      split <;> simp [isO, hg]
  · have hg : getO ls x = none := by
      unfold getO
      rw [hsr]
      rfl
    refine ex2a (ex2b ((rdecode_spec (l := []) (Row.nil _ _ _) (by simp)).mono fun r w3 ⟨hE3, hd⟩ => ?_))
    rcases hd with ⟨o, dv, iv, pv, hmay, hen, rfl, hO⟩ | ⟨hno, rfl⟩
    · simp [enc] at hen
    · exact ex2a (ex2b (hK (.slice none 0 0) _ _ _ _ ob0 _ w3 (hE2.trans hE3) ⟨OwnB.nil _ _, Own3.nil _ _ _, Own.nil _ _ _⟩ (by simp [isO, hg]) (fun h => by simp [isO, hg] at h) (fun _ => rfl)))
end Go.Proofs.Ytcncgkkilgmphaa
