/-
  Contract: marref6.Decode, marref6.Obj.Refs.
-/
import Derived.Test.YtcncgkkilgmphaaOr
set_option linter.unusedVariables false
set_option linter.unusedSimpArgs false
namespace Go.Proofs.Ytcncgkkilgmphaa
open Go Go.RowKit

theorem run_kind_r (k : Int) (w : World) : (Instr.build 38 #[(0, .int .i64 k)]).run Try.prog w = .ok (ObV (.slice none 0 0) (.slice none 0 0) (.slice none 0 0) { ob0 with kind := k }) w := by
  simp [go_sem, Instr.build, ObV, ObC, ob0, noS]
theorem run_buildR {v : Value} (hv : ∃ a n c, v = .slice a n c) (w : World) : (Instr.build 84 #[(0, v), (1, .int .i64 1)]).run Try.prog w = .ok (.agg #[v, .int .i64 1, .bool false]) w := by
  obtain ⟨a, n, c, rfl⟩ := hv
  simp [go_sem, Instr.build]
theorem run_boxR {v : Value} (hv : ∃ a n c, v = .slice a n c) (w : World) : (Instr.box 84 (.agg #[v, .int .i64 1, .bool false])).run Try.prog w = .ok (.pointer (some ⟨w.heap.size, 0, none⟩)) (w.alloc (.cells #[v, .int .i64 1, .bool false] 84)) := by
  obtain ⟨a, n, c, rfl⟩ := hv
  simp [go_sem, Instr.box]
theorem rnumP_le (s : Src) : (rnumP s).1 ≤ 72057594037927936 := by
  unfold rnumP
  have := (getR_le (b := s.1)).2.1
  split
  · simp
  · exact this
set_option maxHeartbeats 2000000 in
theorem rdecode_spec {w : World} {v : Value} {l : List UInt8} (hr : Row w v (bytesV l)) (hl : l.length ≤ 1048576) : Call Try.prog 15 #[v] w fun r w' => DecR w w' 87 l r := by
  apply vc15
  unfold V15
  refine does_of (run_alloc_r w) ?_
  have hE1 := ext_any (.cells (ObC (.slice none 0 0) (.slice none 0 0) (.slice none 0 0) ob0) 38) w
  have hb1 : OBlk (w.alloc (.cells (ObC (.slice none 0 0) (.slice none 0 0) (.slice none 0 0) ob0) 38)) w.heap.size 38 (.slice none 0 0) (.slice none 0 0) (.slice none 0 0) ob0 := heap_alloc_new w _
  generalize w.alloc (.cells (ObC (.slice none 0 0) (.slice none 0 0) (.slice none 0 0) ob0) 38) = w1 at hE1 hb1
  have bad : ∀ {W : World} {e : Int}, Ext w1 W → (∀ o, May o → enc o ≠ l) → e = (if l.length = 0 then 2 else 4) → Does Try.prog (Instr.build 38 #[]) W fun t w' => Does Try.prog (Instr.storeAt 38 (.pointer (some ⟨w.heap.size, 0, none⟩)) t) w' fun _ w' => SameP Try.prog (loadRes 38 (.pointer (some ⟨w.heap.size, 0, none⟩))) w' fun r0 => DecR w w' 87 l (.tuple #[r0, .int .i64 e]) := by
    intro W e hE hno he
    obtain ⟨W2, s1, s2, s3⟩ := run_store_r (isOb0 W) (hb1.ext hE)
    refine does_of (run_new_r W) (does_of s1 (same_load_r (isOb0 W2) s2 ⟨Mod.ext (hE1.trans hE) s3 fun k hk => by cases hk; exact Nat.le_refl _, .inr ⟨hno, by rw [he]⟩⟩))
  refine (hr.ext hE1).len u_bytes (does_of (run_eqI w1) (condP_of (fun h0 => ?_) fun h0 => ?_))
  · have hl0 : l = [] := by simpa using h0
    refine bad (Ext.refl _) (fun o ho he => ?_) (by simp [hl0])
    rw [hl0] at he
    simp [enc] at he
  cases l with
  | nil => simp at h0
  | cons c b =>
    simp only [List.length_cons] at hl
    refine (copyBytes_spec (hr.ext hE1) (by simp; omega)).mono fun bv w2 ⟨hbv, hE2⟩ => ?_
    have hbs := own_slice hbv
    refine does_of (run_buildR hbs w2) (does_of (run_boxR hbs w2) ?_)
    have hE3 := ext_any (.cells #[bv, .int .i64 1, .bool false] 84) w2
    have hb3 : Kp w2.heap.size #[bv, .int .i64 ((1 : Nat) : Int), .bool false] 84 (w2.alloc (.cells #[bv, .int .i64 1, .bool false] 84)) := heap_alloc_new w2 _
    generalize w2.alloc (.cells #[bv, .int .i64 1, .bool false] 84) = w3 at hE3 hb3
    refine does_byteAt (i := 0) hr ((hE1.trans hE2).trans hE3) rfl (does_of (run_conv53 c w3) (does_of (run_kind_r _ w3) (does_of (run_alloc_r w3) ?_)))
    have hE4 := ext_any (.cells (ObC (.slice none 0 0) (.slice none 0 0) (.slice none 0 0) ob0) 38) w3
    have hb4 : OBlk (w3.alloc (.cells (ObC (.slice none 0 0) (.slice none 0 0) (.slice none 0 0) ob0) 38)) w3.heap.size 38 (.slice none 0 0) (.slice none 0 0) (.slice none 0 0) ob0 := heap_alloc_new w3 _
    generalize w3.alloc (.cells (ObC (.slice none 0 0) (.slice none 0 0) (.slice none 0 0) ob0) 38) = w4 at hE4 hb4
    obtain ⟨w5, st5, hb5, hm5⟩ := run_store_r (w0 := w) (o' := { ob0 with kind := (c.toNat : Int) }) ⟨Row.nil _ _ _, IR.nil _ _ _, Row.nil _ _ _⟩ hb4
    refine does_of st5 ?_
    have h35 := hE3.size
    have hSt : RrSt w2 w5 w3.heap.size w2.heap.size (c :: b) nilV nilV nilV { ob0 with kind := (c.toNat : Int) } (b, false) :=
      ⟨⟨Mod.ext (hE3.trans hE4) hm5 fun k hk => by cases hk; exact h35, hb5, ⟨bv, 1, (hb3.ext hE4).mod hm5 fun e => by have := hb3.lt; simp at e; omega, hbv.row, by simp, rfl⟩, h35, Nat.le_refl _, ⟨_, _, _, rfl⟩, by simp; omega⟩, Own3.nil _ _ _, Own.nil _ _ _⟩
    generalize w3.heap.size = ab at hSt
    generalize w2.heap.size = sb at hSt
    generalize hkd : (c.toNat : Int) = kind at hSt
    have hw2 : Ext w w2 := hE1.trans hE2
    clear hb5 hm5 st5 hb4 hE4 hb3 hE3
    refine join0 (fun W => ∃ dv iv pv s', RrSt w2 W ab sb (c :: b) dv iv pv (parse rnumP kind b).1 s' ∧ OwnB w2 W dv (parse rnumP kind b).1.data ∧ s'.2 = (parse rnumP kind b).2) ?_ ?_
    rotate_left
    · intro j1 hj1
      have hF5 : ∀ (k : Value → World → Prop), k (.int .i64 kind) w5 → Does Try.prog (Instr.fieldAt 38 (.pointer (some ⟨ab, 0, none⟩)) 0) w5 fun t w => Does Try.prog (Instr.loadAt 3 t) w k := fun k hk => does_of (run_field_r ab w5).1 (does_load1 agg_i64 hSt.q.kab.cell.1 hk)
      refine hF5 _ ?_
      have hsbge := hSt.q.gs
      unfold parse at hj1
      refine does_of (run_eqI w5) (condP_of (fun hk => ?_) fun hk1 => ?_)
      · have hk : kind = 1 := by simpa using hk
        rw [if_pos hk] at hj1
        subst hk
        refine hr.len u_bytes (does_sub (by simp) (by simp; omega) ?_)
        rw [show (((bytesV (c :: b)).length : Nat) : Int) - 1 = ((b.length : Nat) : Int) by simp]
        refine (rtake_spec hSt.q.ksb hSt.q.e hsbge hSt.q.hL).mono fun u w6 ⟨g1, g2, g3⟩ => ?_
        have hS6 := hSt.src g3 g2
        have et : takeP (b, false) b.length = (b, ([], false)) := by
          have := takeP_app (x := b) (rest := []) (n := b.length) rfl
          simpa using this
        rw [et] at g1 hS6
        refine hS6.set1 (l := b) (own_slice g1) fun w7 hS7 hm7 => hj1 w7 ⟨_, _, _, _, hS7, ?_, rfl⟩
        exact Own.kept g1 hm7 (.inr (Ne.symm (g1.ne hS6.q.abk (by decide))))
      have hk1 : kind ≠ 1 := by simpa using hk1
      rw [if_neg hk1] at hj1
      refine does_of (run_eqI w5) (condP_of (fun hk => ?_) fun hk2 => ?_)
      · have hk : kind = 2 := by simpa using hk
        rw [if_pos hk] at hj1
        subst hk
        refine (rnum_spec hSt.q.ksb hSt.q.e hSt.q.hL).mono fun u w6 ⟨h1, h2, h3⟩ => ?_
        subst h1
        have hS5 := hSt.src h3 h2
        have hd0 := rnumP_down (b, false)
        generalize hT : itemsP rnumP (rnumP (b, false)).1 (rnumP (b, false)).2 [] = T at hj1
        have hnum := rnumP_le (b, false)
        refine rounds1 (σ := ItSt) (fun t => .int .i64 t.i) (fun t W => t.i ≤ (rnumP (b, false)).1 ∧ RrSt w2 W ab sb (c :: b) nilV t.iv nilV { ob0 with kind := 2, items := t.acc } t.s ∧ itemsP rnumP ((rnumP (b, false)).1 - t.i) t.s t.acc = T ∧ t.s.1.length + t.acc.length ≤ b.length + (if t.s.2 then 1 else 0) ∧ t.s.1.length ≤ b.length)
          (fun t _ => (rnumP (b, false)).1 - t.i) ⟨0, nilV, (rnumP (b, false)).2, []⟩ rfl ⟨Nat.zero_le _, hS5, hT, by simp only [List.length_nil]; have := hd0.1; simp only at this; omega, hd0.1⟩ ?_
        rintro next ⟨i, iv, s, acc⟩ W ⟨hi, hS, hP, hlen, hsl⟩ hnext _
        simp only at hi hS hP hlen hsl ⊢
        refine does_lt ?_
        refine and_join (!s.2) (fun _ j hj => ?_) ?_
        · rw [nilP_some]
          exact hS.q.ksb.isBad (does_of (run_not W) hj)
        refine condP_of (fun hgo => ?_) fun hstop => ?_
        · simp only [Bool.and_eq_true, decide_eq_true_eq, Bool.not_eq_true'] at hgo
          obtain ⟨hlt, hs2⟩ := hgo
          have hlt' : i < (rnumP (b, false)).1 := by omega
          rw [show (rnumP (b, false)).1 - i = ((rnumP (b, false)).1 - (i + 1)) + 1 by omega] at hP
          unfold itemsP at hP
          rw [if_neg (by simp [hs2])] at hP
          have hil := itemP_len rnumP_down s
          refine (rbyte_spec hS.q.ksb hS.q.e hS.q.gs hS.q.hL).mono fun u W1 ⟨a1, a2, a3⟩ => ?_
          subst a1
          have hS1 := hS.src a3 a2
          refine (rnum_spec hS1.q.ksb hS1.q.e hS1.q.hL).mono fun u W2 ⟨b1, b2, b3⟩ => ?_
          subst b1
          have hS2 := hS1.src b3 b2
          refine (rtake_spec hS2.q.ksb hS2.q.e hS2.q.gs hS2.q.hL).mono fun u W3 ⟨c1, c2, c3⟩ => ?_
          have hS3 := hS2.src c3 c2
          rw [hs2] at hlen
          simp only [Bool.false_eq_true, if_false] at hlen
          refine region15_15 hS3 c1 (by simp only; omega) fun W4 iv4 hS4 _ => ?_
          refine does_add (by omega) (by omega) (hnext ⟨i + 1, iv4, (itemP rnumP s).2, acc ++ [(itemP rnumP s).1]⟩ _ W4 (by simp) ⟨hlt', hS4, hP, ?_, by simp only; omega⟩ (by simp only; omega))
          simp only [List.length_append, List.length_cons, List.length_nil]
          cases hq : (itemP rnumP s).2.2 with
          | true => simp only [if_true]; omega
          | false => have := hil.2.1 hq; simp only [Bool.false_eq_true, if_false]; omega
        · have hTe : (acc, s) = T := by
            rw [← hP]
            rcases Nat.eq_zero_or_pos ((rnumP (b, false)).1 - i) with h0 | h0
            · rw [h0]; rfl
            · rw [show (rnumP (b, false)).1 - i = ((rnumP (b, false)).1 - (i + 1)) + 1 by omega]
              unfold itemsP
              have hs2 : s.2 = true := by
                simp only [Bool.and_eq_false_iff, decide_eq_false_iff_not, Bool.not_eq_false'] at hstop
                rcases hstop with h | h
                · omega
                · exact h
              rw [if_pos hs2]
          rw [← hTe] at hj1
          exact hj1 W ⟨_, _, _, _, hS, OwnB.nil _ _, rfl⟩
      have hk2 : kind ≠ 2 := by simpa using hk2
      rw [if_neg hk2] at hj1
      refine does_of (run_eqI w5) (condP_of (fun hk => ?_) fun hk3 => ?_)
      · have hk : kind = 3 := by simpa using hk
        rw [if_pos hk] at hj1
        subst hk
        have hl32 : (takeP (b, false) 32).1.length ≤ 32 := (takeP_len (b, false) 32).2.1
        refine (rtake_spec (n := 32) hSt.q.ksb hSt.q.e hsbge hSt.q.hL).mono fun u w6 ⟨h1, h2, h3⟩ => ?_
        refine (rhex_spec h1.row (by omega)).mono fun u w7 ⟨g1, g2⟩ => ?_
        subst g1
        have hS7 := (hSt.src (s' := (hashP (b, false)).2) h3 h2).ext g2
        refine hS7.set3 fun w8 hS8 => ?_
        have hl1 := (hashP_len (b, false)).1
        have hl2 := (takeP_len (hashP (b, false)).2 1).2.2.1
        refine (rbyte_spec hS8.q.ksb hS8.q.e hS8.q.gs hS8.q.hL).mono fun u w9 ⟨a1, a2, a3⟩ => ?_
        subst a1
        have hS9 := hS8.src a3 a2
        unfold parseC at hj1
        simp only at hj1
        generalize hT : hashesP (oneP (hashP (b, false)).2).1 (oneP (hashP (b, false)).2).2 [] = T at hj1
        have hN : (oneP (hashP (b, false)).2).1 < 256 := by unfold oneP; exact UInt8.toNat_lt _
        refine rounds1 (σ := PaSt) (fun t => .int .i64 t.i) (fun t W => t.i ≤ (oneP (hashP (b, false)).2).1 ∧ RrSt w2 W ab sb (c :: b) nilV nilV t.pv { ob0 with kind := 3, tree := (hashP (b, false)).1, parents := t.acc } t.s ∧ hashesP ((oneP (hashP (b, false)).2).1 - t.i) t.s t.acc = T ∧ t.s.1.length + t.acc.length ≤ b.length + (if t.s.2 then 1 else 0) ∧ t.s.1.length ≤ b.length)
          (fun t _ => (oneP (hashP (b, false)).2).1 - t.i) ⟨0, nilV, (oneP (hashP (b, false)).2).2, []⟩ rfl ⟨Nat.zero_le _, hS9, hT, by unfold oneP; simp only [List.length_nil]; simp only at hl1; omega, by unfold oneP; simp only at hl1 ⊢; omega⟩ ?_
        rintro next ⟨i, pv, s, acc⟩ W ⟨hi, hS, hP, hlen, hsl⟩ hnext _
        simp only at hi hS hP hlen hsl ⊢
        refine does_lt ?_
        refine and_join (!s.2) (fun _ j hj => ?_) ?_
        · rw [nilP_some]
          exact hS.q.ksb.isBad (does_of (run_not W) hj)
        refine condP_of (fun hgo => ?_) fun hstop => ?_
        · simp only [Bool.and_eq_true, decide_eq_true_eq, Bool.not_eq_true'] at hgo
          obtain ⟨hlt, hs2⟩ := hgo
          have hlt' : i < (oneP (hashP (b, false)).2).1 := by omega
          rw [show (oneP (hashP (b, false)).2).1 - i = ((oneP (hashP (b, false)).2).1 - (i + 1)) + 1 by omega] at hP
          unfold hashesP at hP
          rw [if_neg (by simp [hs2])] at hP
          have hil := hashP_len s
          rw [hs2] at hlen
          simp only [Bool.false_eq_true, if_false] at hlen
          refine region15_22 hS (by simp only; omega) fun W4 pv4 hS4 _ => ?_
          refine does_add (by omega) (by omega) (hnext ⟨i + 1, pv4, (hashP s).2, acc ++ [(hashP s).1]⟩ _ W4 (by simp) ⟨hlt', hS4, hP, ?_, by simp only; omega⟩ (by simp only; omega))
          simp only [List.length_append, List.length_cons, List.length_nil]
          cases hq : (hashP s).2.2 with
          | true => simp only [if_true]; omega
          | false => have := hil.2.1 hq; simp only [Bool.false_eq_true, if_false]; omega
        · have hTe : (acc, s) = T := by
            rw [← hP]
            rcases Nat.eq_zero_or_pos ((oneP (hashP (b, false)).2).1 - i) with h0 | h0
            · rw [h0]; rfl
            · rw [show (oneP (hashP (b, false)).2).1 - i = ((oneP (hashP (b, false)).2).1 - (i + 1)) + 1 by omega]
              unfold hashesP
              have hs2 : s.2 = true := by
                simp only [Bool.and_eq_false_iff, decide_eq_false_iff_not, Bool.not_eq_false'] at hstop
                rcases hstop with h | h
                · omega
                · exact h
              rw [if_pos hs2]
          rw [← hTe] at hj1
          refine (rnum_spec hS.q.ksb hS.q.e hS.q.hL).mono fun u W1 ⟨b1, b2, b3⟩ => ?_
          subst b1
          have hS1 := hS.src b3 b2
          refine (rnum_spec hS1.q.ksb hS1.q.e hS1.q.hL).mono fun u W2 ⟨c1, c2, c3⟩ => ?_
          subst c1
          have hS2 := hS1.src c3 c2
          refine hS2.set5 fun W3 hS3 => hS3.set6 fun W4 hS4 => ?_
          refine (rnum_spec hS4.q.ksb hS4.q.e hS4.q.hL).mono fun u W5 ⟨e1, e2, e3⟩ => ?_
          subst e1
          have hS5 := hS4.src e3 e2
          refine (rtake_spec hS5.q.ksb hS5.q.e hS5.q.gs hS5.q.hL).mono fun u W6 ⟨f1, f2, f3⟩ => ?_
          have hS6 := hS5.src f3 f2
          exact does_of (run_conv_str f1.row) (hS6.set7 fun W7 hS7 => hj1 W7 ⟨_, _, _, _, hS7, OwnB.nil _ _, rfl⟩)
      · have hk3 : kind ≠ 3 := by simpa using hk3
        rw [if_neg hk3] at hj1
        exact hj1 w5 ⟨_, _, _, _, hSt, OwnB.nil _ _, rfl⟩
    rintro W ⟨dv, iv, pv, s', hS, hd, hs'⟩ _
    have hmod := parse_modest (num := rnumP) rnumP_down (kind := kind) (l := b) (by omega)
    have hO : OwnOb w2 W 87 dv iv pv (parse rnumP kind b).1 := ⟨hd, hS.items, hS.pars⟩
    have hdec : ∀ o', May o' → enc o' = c :: b → (o', false) = parse rnumP kind b := fun o' h1 h2 => by
      have := dec_enc reads_rnum h1 h2
      rw [← hkd, this]
    generalize hP : parse rnumP kind b = pr at hS hd hs' hmod hO hdec
    obtain ⟨o, bd⟩ := pr
    simp only at hS hd hs' hmod hO hdec
    have hEW : Ext w1 W := hE2.trans hS.q.e
    refine does_of (run_load_r hO.isOb hS.q.kab) ((rencode_spec hO.isOb hmod).mono fun r W2 ⟨hE2', hr2⟩ => ?_)
    have hE12 : Ext w1 W2 := hEW.trans hE2'
    have hS2 := hS.ext hE2'
    obtain ⟨er, sv, hbad, hgood, hrr⟩ : ∃ (er : Int) (sv : Value), (bd = true ∨ er ≠ 0 → ∀ o, May o → enc o ≠ c :: b) ∧ (er = 0 → May o ∧ OwnB W W2 sv (enc o)) ∧ r = .tuple #[sv, .int .i64 er] := by
      rcases hr2 with ⟨hmay, s, rfl, hs⟩ | ⟨hnot, rfl⟩
      · refine ⟨0, s, fun h o' h1 h2 => ?_, fun _ => ⟨hmay, hs⟩, rfl⟩
        have := hdec o' h1 h2
        rcases h with h | h
        · rw [h] at this; simp at this
        · exact h rfl
      · refine ⟨1, _, fun _ o' h1 h2 => ?_, fun h => by omega, rfl⟩
        have := hdec o' h1 h2
        simp only [Prod.mk.injEq] at this
        rw [this.1] at h1
        exact hnot h1
    subst hrr
    refine ex2a (ex2b ?_)
    rw [nilP_some]
    refine hS2.q.ksb.isBad ?_
    rw [hs']
    refine or_join (!decide (er = 0)) (fun _ j hj => does_of (run_neI W2) hj) ?_
    have hb2 := hS2.q.kab
    refine join1 (fun t W' => W' = W2 ∧ ((bd || !decide (er = 0)) = false → t = .bool (!decide (enc o = c :: b)))) ?_ ?_
    rotate_left
    · intro j hj
      refine guardP_of (fun h => ?_) fun h => hj _ _ ⟨rfl, fun h' => absurd h' h⟩
      simp only [Bool.or_eq_false_iff, Bool.not_eq_false', decide_eq_true_eq] at h
      obtain ⟨hmay, hs⟩ := hgood h.2
      refine (rbytes_spec hs.row ((hr.ext hE1).ext hE12)).mono fun u W3 ⟨g1, g2⟩ => ?_
      subst g1 g2
      exact does_of (run_not W3) (hj _ _ ⟨rfl, fun _ => rfl⟩)
    rintro t W3 ⟨rfl, ht⟩ _
    refine pickP_of ?_
    by_cases hq : (bd || !decide (er = 0)) = true
    · rw [if_pos hq, condP_true]
      refine bad hE12 (hbad ?_) (by simp)
      simpa using hq
    · have hq' : (bd || !decide (er = 0)) = false := by simpa using hq
      rw [if_neg hq, ht hq']
      simp only [Bool.or_eq_false_iff, Bool.not_eq_false', decide_eq_true_eq] at hq'
      obtain ⟨hmay, hs⟩ := hgood hq'.2
      refine condP_of (fun hb => ?_) fun hb => ?_
      · simp only [Bool.not_eq_true', decide_eq_false_iff_not] at hb
        refine bad hE12 (fun o' h1 h2 => ?_) (by simp)
        have := hdec o' h1 h2
        simp only [Prod.mk.injEq] at this
        rw [this.1] at h2
        exact hb h2
      · simp only [Bool.not_eq_false', decide_eq_true_eq] at hb
        have hO3 := hO.ext hE2'
        obtain ⟨W4, s1, s2, s3⟩ := run_store_r hO3.isOb (hb1.ext hE12)
        have hO4 := hO3.mod (hb1.ext hE12 : Kp w.heap.size zObC 38 W3) (by decide) (by decide) (by decide) s3
        exact does_of (run_load_r hO3.isOb hb2) (does_of s1 (same_load_r hO4.isOb s2 ⟨Mod.ext (hE1.trans hE12) s3 fun k hk => by cases hk; exact Nat.le_refl _, .inl ⟨o, dv, iv, pv, hmay, hb, rfl, hO4.back hw2.size⟩⟩))
theorem rrefs_spec {w : World} {dv iv pv : Value} {o : Ob} (h : IsOb w dv iv pv o) (hl : (refsOf o).length ≤ 1048576) : Call Try.prog 16 #[ObV dv iv pv o] w fun r w' => Ext w w' ∧ Own w' w.heap.size 9 r (strsV (refsOf o)) := by
  apply vc16
  unfold V16
  refine box_r h fun w1 hE1 hF => hF.f0 (does_of (run_eqI w1) (condP_of (fun hk => ?_) fun hk2 => ?_))
  · have hk : o.kind = 2 := by simpa using hk
    have hre : refsOf o = o.items.map (·.id) := by simp [refsOf, hk]
    rw [hre] at hl ⊢
    simp only [List.length_map] at hl
    refine rounds2 (σ := RefSt) (fun s => s.v) (fun s => .int .i64 s.i) (fun s W => s.i ≤ o.items.length ∧ Ext w1 W ∧ Own W w1.heap.size 9 s.v (strsV ((o.items.take s.i).map (·.id)))) (fun s _ => o.items.length - s.i) ⟨.slice none 0 0, 0⟩ rfl rfl ⟨Nat.zero_le _, Ext.refl _, Own.nil _ _ _⟩ ?_
    rintro next ⟨va, i⟩ W ⟨hi, hE, ho⟩ hnext _
    simp only at hi ho ⊢
    have hFW := hF.ext hE
    refine hFW.f2 (hFW.ob.items.len_r (does_lt (condP_of (fun hlt => ?_) fun hge => ?_)))
    · have hlt' : i < o.items.length := by simpa using hlt
      obtain ⟨p, hp, hidx, c0, c1, c2⟩ := hF.ob.items.at_r (List.getElem?_eq_getElem hlt')
      refine hFW.f2 (does_of (hidx .i64 W) (does_of (run_fieldI_r hp W).2.2 (does_load1 agg_str (hE.cell c2) (does_of (run_one_str _ W) ?_))))
      have hE3 := hE.trans (ext_any (.cells #[.string o.items[i].id] 9) W)
      refine (ho.ext (ext_any _ W)).pushS hE3 (own_one_str _ W).row (by simp; omega) fun v' W3 g1 g2 _ => ?_
      refine does_add (by omega) (by omega) (hnext ⟨v', i + 1⟩ _ _ W3 rfl (by simp) ⟨hlt', g2, ?_⟩ (by simp only; omega))
      simp only
      rw [List.take_succ_eq_append_getElem hlt', List.map_append]
      exact g1
    · have hie : i = o.items.length := by simp at hge; omega
      rw [hie, List.take_length] at ho
      exact ⟨hE1.trans hE, ho.mono hE1.size⟩
  have hk2 : o.kind ≠ 2 := by simpa using hk2
  refine does_of (run_eqI w1) (condP_of (fun hk => ?_) fun hk3 => ?_)
  · have hk : o.kind = 3 := by simpa using hk
    have hre : refsOf o = [o.tree] ++ o.parents := by simp [refsOf, hk]
    rw [hre] at hl ⊢
    simp only [List.length_append, List.length_cons, List.length_nil] at hl
    refine hF.f3 (does_of (run_one_str _ w1) ?_)
    have hF2 := hF.ext (ext_any (.cells #[.string o.tree] 9) w1)
    refine hF2.f4 ((own_one_str _ w1).pushS (w0 := w1) (ext_any _ w1) hF2.ob.pars (by simp only [List.length_cons, List.length_nil]; omega) fun v' W3 g1 g2 _ => ⟨hE1.trans g2, g1.mono hE1.size⟩)
  · have hk3 : o.kind ≠ 3 := by simpa using hk3
    have hre : refsOf o = [] := by simp [refsOf, hk2, hk3]
    rw [hre]
    exact ⟨hE1, Own.nil _ _ _⟩
end Go.Proofs.Ytcncgkkilgmphaa
