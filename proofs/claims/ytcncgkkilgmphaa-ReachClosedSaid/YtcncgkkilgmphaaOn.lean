/-
  Contract: obj.read, the walk of its body.
-/
import Derived.Test.YtcncgkkilgmphaaOm
set_option linter.unusedVariables false
set_option linter.unusedSimpArgs false
namespace Go.Proofs.Ytcncgkkilgmphaa
open Go Go.RowKit

theorem run_kind_o (k : Int) (w : World) : (Instr.build 72 #[(0, .int .i64 k)]).run Try.prog w = .ok (ObV (.slice none 0 0) (.slice none 0 0) (.slice none 0 0) { ob0 with kind := k }) w := by
  simp [go_sem, Instr.build, ObV, ObC, ob0, noS]
theorem run_buildS {v : Value} (hv : ∃ a n c, v = .slice a n c) (w : World) : (Instr.build 131 #[(0, v)]).run Try.prog w = .ok (.agg #[v, .bool false]) w := by
  obtain ⟨a, n, c, rfl⟩ := hv
  simp [go_sem, Instr.build]
theorem run_boxS {v : Value} (hv : ∃ a n c, v = .slice a n c) (w : World) : (Instr.box 131 (.agg #[v, .bool false])).run Try.prog w = .ok (.pointer (some ⟨w.heap.size, 0, none⟩)) (w.alloc (.cells #[v, .bool false] 131)) := by
  obtain ⟨a, n, c, rfl⟩ := hv
  simp [go_sem, Instr.box]
structure ItSt where
  i : Nat
  iv : Value
  s : Src
  acc : List It
structure PaSt where
  i : Nat
  pv : Value
  s : Src
  acc : List ByteArray
def nilV : Value := .slice none 0 0
theorem RdSt.fin0 {w0 W : World} {rb ab sb : Nat} {iv pv : Value} {o : Ob} {s : Src} (h : RdSt w0 W rb ab sb nilV iv pv o s) (hd : o.data = []) :
    Does Try.prog (Instr.loadAt 72 (.pointer (some ⟨ab, 0, none⟩))) W fun t w => Does Try.prog (Instr.storeAt 72 (.pointer (some ⟨rb, 0, none⟩)) t) w fun _ w => SameP Try.prog (loadRes 72 (.pointer (some ⟨rb, 0, none⟩))) w fun r => ReadR w0 w o r :=
  h.fin (by rw [hd]; exact OwnB.nil _ _)
set_option maxHeartbeats 1000000 in
theorem read_spec {w : World} {v : Value} {l : List UInt8} {kind : Int} (hr : Row w v (bytesV l)) (hl : l.length ≤ 1048576) : Call Try.prog 94 #[.int .i64 kind, v] w fun r w' => ReadR w w' (parse numP kind l).1 r := by
  apply vc94
  unfold V94
  have hvs : ∃ a n c, v = .slice a n c := by obtain ⟨a, c, h⟩ := hr.slice; exact ⟨a, _, c, h⟩
  refine does_of (run_alloc_o w) ?_
  have hE1 := ext_any (.cells (ObC (.slice none 0 0) (.slice none 0 0) (.slice none 0 0) ob0) 72) w
  have hb1 : Kp w.heap.size zObC 72 (w.alloc (.cells (ObC (.slice none 0 0) (.slice none 0 0) (.slice none 0 0) ob0) 72)) := heap_alloc_new w _
  have hs1 : (w.alloc (.cells (ObC (.slice none 0 0) (.slice none 0 0) (.slice none 0 0) ob0) 72)).heap.size = w.heap.size + 1 := by simp
  generalize w.alloc (.cells (ObC (.slice none 0 0) (.slice none 0 0) (.slice none 0 0) ob0) 72) = w1 at hE1 hb1 hs1
  refine does_of (run_kind_o kind w1) (does_of (run_alloc_o w1) ?_)
  have hE2 := ext_any (.cells (ObC (.slice none 0 0) (.slice none 0 0) (.slice none 0 0) ob0) 72) w1
  have hb2 : OBlk (w1.alloc (.cells (ObC (.slice none 0 0) (.slice none 0 0) (.slice none 0 0) ob0) 72)) w1.heap.size 72 (.slice none 0 0) (.slice none 0 0) (.slice none 0 0) ob0 := heap_alloc_new w1 _
  generalize w1.alloc (.cells (ObC (.slice none 0 0) (.slice none 0 0) (.slice none 0 0) ob0) 72) = w2 at hE2 hb2
  obtain ⟨w3, hst, hb3, hm3⟩ := run_store_o (w0 := w) (o' := { ob0 with kind := kind }) ⟨Row.nil _ _ _, IR.nil _ _ _, Row.nil _ _ _⟩ hb2
  refine does_of hst (does_of (run_buildS hvs w3) (does_of (run_boxS hvs w3) ?_))
  have hE3 : Ext w w3 := Mod.ext (hE1.trans hE2) hm3 fun k hk => by cases hk; omega
  have hE4 := ext_any (.cells #[v, .bool false] 131) w3
  have hb4 : Kp w3.heap.size #[v, .bool false] 131 (w3.alloc (.cells #[v, .bool false] 131)) := heap_alloc_new w3 _
  have hrb3 : Kp w.heap.size zObC 72 w3 := (hb1.ext hE2).mod hm3 fun e => by simp at e; omega
  have hSt : RdSt w (w3.alloc (.cells #[v, .bool false] 131)) w.heap.size w1.heap.size w3.heap.size nilV nilV nilV { ob0 with kind := kind } (l, false) :=
    ⟨⟨hE3.trans hE4, hrb3.ext hE4, hb3.ext hE4, ⟨v, hb4, hr⟩, by omega, Nat.le_refl _, by omega, hE3.size, ⟨_, _, _, rfl⟩⟩, Own3.nil _ _ _, Own.nil _ _ _⟩
  generalize w3.alloc (.cells #[v, .bool false] 131) = w4 at hSt
  generalize hrb : w.heap.size = rb at hSt
  generalize hab : w1.heap.size = ab at hSt
  generalize hsb : w3.heap.size = sb at hSt
  have hgs : w.heap.size ≤ sb := hSt.q.gs
  unfold parse
  refine does_of (run_eqI w4) (condP_of (fun hk => ?_) fun hk1 => ?_)
  · have hk : kind = 1 := by simpa using hk
    rw [if_pos hk]
    subst hk
    refine (bclone_spec (hr.ext hSt.q.e) (by omega)).mono fun u w5 ⟨g1, g2⟩ => ?_
    have hS5 := hSt.ext g2
    refine hS5.set1 (l := l) (own_slice g1) fun w6 hS6 hm6 => ?_
    have g1' : OwnB w4 w6 u l := g1.kept hm6 (.inr (Ne.symm (g1.ne hS5.q.abk (by decide))))
    exact hS6.fin (g1'.back hSt.q.e)
  have hk1 : kind ≠ 1 := by simpa using hk1
  rw [if_neg hk1]
  refine does_of (run_eqI w4) (condP_of (fun hk => ?_) fun hk2 => ?_)
  · have hk : kind = 2 := by simpa using hk
    rw [if_pos hk]
    subst hk
    refine (numberS_spec hSt.q.ksb hSt.q.e (by simp only; omega)).mono fun u w5 ⟨h1, h2, h3⟩ => ?_
    subst h1
    have hS5 := hSt.src h3 h2
    have hd0 := numP_down (l, false)
    generalize hT : itemsP numP (numP (l, false)).1 (numP (l, false)).2 [] = T
    refine rounds1 (σ := ItSt) (fun t => .int .i64 t.i) (fun t W => t.i ≤ (numP (l, false)).1 ∧ RdSt w W rb ab sb nilV t.iv nilV { ob0 with kind := 2, items := t.acc } t.s ∧ itemsP numP ((numP (l, false)).1 - t.i) t.s t.acc = T ∧ t.s.1.length + t.acc.length ≤ l.length + (if t.s.2 then 1 else 0) ∧ t.s.1.length ≤ l.length)
      (fun t _ => (numP (l, false)).1 - t.i) ⟨0, nilV, (numP (l, false)).2, []⟩ rfl ⟨Nat.zero_le _, hS5, hT, by simp only [List.length_nil]; have := hd0.1; simp only at this; omega, hd0.1⟩ ?_
    rintro next ⟨i, iv, s, acc⟩ W ⟨hi, hS, hP, hlen, hsl⟩ hnext _
    simp only at hi hS hP hlen hsl ⊢
    refine does_lt ?_
    refine and_join (!s.2) (fun _ j hj => ?_) ?_
    · rw [nilP_some]
      exact hS.q.ksb.load1 (does_of (run_not W) hj)
    refine condP_of (fun hgo => ?_) fun hstop => ?_
    · simp only [Bool.and_eq_true, decide_eq_true_eq, Bool.not_eq_true'] at hgo
      obtain ⟨hlt, hs2⟩ := hgo
      have hlt' : i < (numP (l, false)).1 := by omega
      rw [show (numP (l, false)).1 - i = ((numP (l, false)).1 - (i + 1)) + 1 by omega] at hP
      unfold itemsP at hP
      rw [if_neg (by simp [hs2])] at hP
      have hil := itemP_len numP_down s
      have hnl := getR_le (b := l)
      refine (one_spec hS.q.ksb hS.q.e hS.q.gs).mono fun u W1 ⟨a1, a2, a3⟩ => ?_
      subst a1
      have hS1 := hS.src a3 a2
      have hl1 := (takeP_len s 1).2.2.1
      refine (numberS_spec hS1.q.ksb hS1.q.e (by unfold oneP; simp only; omega)).mono fun u W2 ⟨b1, b2, b3⟩ => ?_
      subst b1
      have hS2 := hS1.src b3 b2
      refine (take_spec hS2.q.ksb).mono fun u W3 ⟨c1, c2, c3⟩ => ?_
      have hS3 := hS2.src c3 c2
      refine does_of (run_conv_str (c1.ext hS3.q.e)) ?_
      rw [hs2] at hlen
      simp only [Bool.false_eq_true, if_false] at hlen
      refine region94_13 hS3 (by simp only; omega) fun W4 iv4 hS4 _ => ?_
      have hnum : (numP (l, false)).1 ≤ 72057594037927936 := by
        unfold numP
        split
        · exact hnl.2.1
        · simp
      refine does_add (by omega) (by omega) (hnext ⟨i + 1, iv4, (itemP numP s).2, acc ++ [(itemP numP s).1]⟩ _ W4 (by simp) ⟨hlt', hS4, hP, ?_, by simp only; omega⟩ (by simp only; omega))
      simp only [List.length_append, List.length_cons, List.length_nil]
      cases hq : (itemP numP s).2.2 with
      | true => simp only [if_true]; omega
      | false => have := hil.2.1 hq; simp only [Bool.false_eq_true, if_false]; omega
    · have hTe : (acc, s) = T := by
        rw [← hP]
        rcases Nat.eq_zero_or_pos ((numP (l, false)).1 - i) with h0 | h0
        · rw [h0]; rfl
        · rw [show (numP (l, false)).1 - i = ((numP (l, false)).1 - (i + 1)) + 1 by omega]
          unfold itemsP
          have hs2 : s.2 = true := by
            simp only [Bool.and_eq_false_iff, decide_eq_false_iff_not, Bool.not_eq_false'] at hstop
            rcases hstop with h | h
            · omega
            · exact h
          rw [if_pos hs2]
      have hfin := hS.fin0 rfl
      rw [← hTe]
      exact hfin
  have hk2 : kind ≠ 2 := by simpa using hk2
  rw [if_neg hk2]
  refine does_of (run_eqI w4) (condP_of (fun hk => ?_) fun hk3 => ?_)
  · have hk : kind = 3 := by simpa using hk
    rw [if_pos hk]
    subst hk
    refine (hashS_spec hSt.q.ksb hSt.q.e hgs).mono fun u w5 ⟨h1, h2, h3⟩ => ?_
    subst h1
    refine (hSt.src h3 h2).set3 fun w6 hS6 => ?_
    have hl1 := (hashP_len (l, false)).1
    have hl2 := (takeP_len (hashP (l, false)).2 1).2.2.1
    refine (one_spec hS6.q.ksb hS6.q.e hgs).mono fun u w7 ⟨a1, a2, a3⟩ => ?_
    subst a1
    have hS7 := hS6.src a3 a2
    generalize hT : hashesP (oneP (hashP (l, false)).2).1 (oneP (hashP (l, false)).2).2 [] = T
    have hN : (oneP (hashP (l, false)).2).1 < 256 := by unfold oneP; exact UInt8.toNat_lt _
    refine rounds1 (σ := PaSt) (fun t => .int .i64 t.i) (fun t W => t.i ≤ (oneP (hashP (l, false)).2).1 ∧ RdSt w W rb ab sb nilV nilV t.pv { ob0 with kind := 3, tree := (hashP (l, false)).1, parents := t.acc } t.s ∧ hashesP ((oneP (hashP (l, false)).2).1 - t.i) t.s t.acc = T ∧ t.s.1.length + t.acc.length ≤ l.length + (if t.s.2 then 1 else 0) ∧ t.s.1.length ≤ l.length)
      (fun t _ => (oneP (hashP (l, false)).2).1 - t.i) ⟨0, nilV, (oneP (hashP (l, false)).2).2, []⟩ rfl ⟨Nat.zero_le _, hS7, hT, by unfold oneP; simp only [List.length_nil]; simp only at hl1; omega, by unfold oneP; simp only at hl1 ⊢; omega⟩ ?_
    rintro next ⟨i, pv, s, acc⟩ W ⟨hi, hS, hP, hlen, hsl⟩ hnext _
    simp only at hi hS hP hlen hsl ⊢
    refine does_lt ?_
    refine and_join (!s.2) (fun _ j hj => ?_) ?_
    · rw [nilP_some]
      exact hS.q.ksb.load1 (does_of (run_not W) hj)
    refine condP_of (fun hgo => ?_) fun hstop => ?_
    · simp only [Bool.and_eq_true, decide_eq_true_eq, Bool.not_eq_true'] at hgo
      obtain ⟨hlt, hs2⟩ := hgo
      have hlt' : i < (oneP (hashP (l, false)).2).1 := by omega
      rw [show (oneP (hashP (l, false)).2).1 - i = ((oneP (hashP (l, false)).2).1 - (i + 1)) + 1 by omega] at hP
      unfold hashesP at hP
      rw [if_neg (by simp [hs2])] at hP
      have hil := hashP_len s
      rw [hs2] at hlen
      simp only [Bool.false_eq_true, if_false] at hlen
      refine region94_20 hS (by simp only; omega) fun W4 pv4 hS4 _ => ?_
      refine does_add (by omega) (by omega) (hnext ⟨i + 1, pv4, (hashP s).2, acc ++ [(hashP s).1]⟩ _ W4 (by simp) ⟨hlt', hS4, hP, ?_, by simp only; omega⟩ (by simp only; omega))
      simp only [List.length_append, List.length_cons, List.length_nil]
      cases hq : (hashP s).2.2 with
      | true => simp only [if_true]; omega
      | false => have := hil.2.1 hq; simp only [Bool.false_eq_true, if_false]; omega
    · have hTe : (acc, s) = T := by
        rw [← hP]
        rcases Nat.eq_zero_or_pos ((oneP (hashP (l, false)).2).1 - i) with h0 | h0
        · rw [h0]; rfl
        · rw [show (oneP (hashP (l, false)).2).1 - i = ((oneP (hashP (l, false)).2).1 - (i + 1)) + 1 by omega]
          unfold hashesP
          have hs2 : s.2 = true := by
            simp only [Bool.and_eq_false_iff, decide_eq_false_iff_not, Bool.not_eq_false'] at hstop
            rcases hstop with h | h
            · omega
            · exact h
          rw [if_pos hs2]
      have d1 := numP_down s
      have d2 := numP_down (numP s).2
      refine (numberS_spec hS.q.ksb hS.q.e (by omega)).mono fun u W1 ⟨b1, b2, b3⟩ => ?_
      subst b1
      have hS1 := hS.src b3 b2
      refine (numberS_spec hS1.q.ksb hS1.q.e (by omega)).mono fun u W2 ⟨c1, c2, c3⟩ => ?_
      subst c1
      have hS2 := hS1.src c3 c2
      refine hS2.set5 fun W3 hS3 => hS3.set6 fun W4 hS4 => ?_
      refine (numberS_spec hS4.q.ksb hS4.q.e (by omega)).mono fun u W5 ⟨e1, e2, e3⟩ => ?_
      subst e1
      have hS5 := hS4.src e3 e2
      refine (take_spec hS5.q.ksb).mono fun u W6 ⟨f1, f2, f3⟩ => ?_
      have hS6 := hS5.src f3 f2
      refine does_of (run_conv_str (f1.ext hS6.q.e)) (hS6.set7 fun W7 hS7 => ?_)
      have hfin := hS7.fin0 rfl
      unfold parseC
      simp only [hT]
      rw [← hTe]
      exact hfin
  · have hk3 : kind ≠ 3 := by simpa using hk3
    rw [if_neg hk3]
    exact hSt.fin0 rfl
end Go.Proofs.Ytcncgkkilgmphaa
