import Derived.Test.YtcncgkkilgmphaaDr
import Derived.Test.YtcncgkkilgmphaaProg
set_option linter.unusedVariables false
set_option maxRecDepth 100000
namespace Go.Proofs.Ytcncgkkilgmphaa
open Go
theorem p4_11 {it0 it7 it8 it9 it10 : Value} {w : World} {J : VF 1} (E S : World → World → Prop) (C : Nat → World → Prop) (F3 F4 F5 F9 F10 F11 F12 F16 F17 F18 F21 F22 F23 F26 F27 F28 F29 F30 F32 F33 F34 F35 F36 F37 F38 F39 F40 : Value → World → Prop) 
    (he : ∀ W, E W W) (hES : ∀ W W1, E W W1 → S W W1) (hr : ∀ W, S W W) (ht : ∀ a b c, S a b → S b c → S a c) (s3 : FSt E F3) (s4 : FSt E F4) (s5 : FSt E F5) (s9 : FSt E F9) (s10 : FSt E F10) (s11 : FSt E F11) (s12 : FSt E F12) (s16 : FSt E F16) (s17 : FSt E F17) (s18 : FSt E F18) (s21 : FSt E F21) (s22 : FSt E F22) (s23 : FSt E F23) (s26 : FSt E F26) (s27 : FSt E F27) (s28 : FSt E F28) (s29 : FSt E F29) (s30 : FSt E F30) (s32 : FSt E F32) (s33 : FSt E F33) (s34 : FSt E F34) (s35 : FSt E F35) (s36 : FSt E F36) (s37 : FSt E F37) (s38 : FSt E F38) (s39 : FSt E F39) (s40 : FSt E F40)
    (h0 : C 0 { w with drawn := w.drawn + 1 })
    (o3 : ∀ k : Nat, 0 ≤ k → k ≤ 2 → ∀ W, S { w with drawn := w.drawn + 1 } W → C k W → 
      Does Try.prog (Instr.indexAt 44 it0 it9) W fun t70 w =>
      (E W w ∧ C k w ∧ F3 t70 w)
    )
    (o4 : ∀ t70 : Value, ∀ k : Nat, 0 ≤ k → k ≤ 2 → ∀ W, S { w with drawn := w.drawn + 1 } W → C k W → F3 t70 W → 
      Does Try.prog (Instr.fieldAt 54 t70 0) W fun t71 w =>
      (E W w ∧ C k w ∧ F4 t71 w)
    )
    (o5 : ∀ t71 : Value, ∀ W, S { w with drawn := w.drawn + 1 } W → C 0 W → F4 t71 W → 
      Does Try.prog (Instr.loadAt 9 t71) W fun t72 w =>
      (E W w ∧ C 0 w ∧ F5 t72 w)
    )
    (o9 : ∀ k : Nat, 0 ≤ k → k ≤ 2 → ∀ W, S { w with drawn := w.drawn + 1 } W → C k W → 
      Does Try.prog (Instr.indexAt 44 it0 it9) W fun t76 w =>
      (E W w ∧ C k w ∧ F9 t76 w)
    )
    (o10 : ∀ t76 : Value, ∀ k : Nat, 0 ≤ k → k ≤ 2 → ∀ W, S { w with drawn := w.drawn + 1 } W → C k W → F9 t76 W → 
      Does Try.prog (Instr.fieldAt 54 t76 2) W fun t77 w =>
      (E W w ∧ C k w ∧ F10 t77 w)
    )
    (o11 : ∀ t77 : Value, ∀ W, S { w with drawn := w.drawn + 1 } W → C 0 W → F10 t77 W → 
      Does Try.prog (Instr.loadAt 3 t77) W fun t78 w =>
      (E W w ∧ C 0 w ∧ F11 t78 w)
    )
    (o12 : ∀ t72 t78 : Value, ∀ W, S { w with drawn := w.drawn + 1 } W → C 0 W → F5 t72 W → F11 t78 W → 
      Call Try.prog 22 #[it7, t72, it10, t78] W fun t79 w =>
      (S W w ∧ C 1 w ∧ F12 t79 w ∧ (∀ v, F3 v W → F3 v w) ∧ (∀ v, F4 v W → F4 v w) ∧ (∀ v, F5 v W → F5 v w) ∧ (∀ v, F9 v W → F9 v w) ∧ (∀ v, F10 v W → F10 v w) ∧ (∀ v, F11 v W → F11 v w) ∧ (∀ v, F16 v W → F16 v w) ∧ (∀ v, F17 v W → F17 v w) ∧ (∀ v, F18 v W → F18 v w) ∧ (∀ v, F21 v W → F21 v w) ∧ (∀ v, F22 v W → F22 v w) ∧ (∀ v, F23 v W → F23 v w) ∧ (∀ v, F26 v W → F26 v w) ∧ (∀ v, F27 v W → F27 v w) ∧ (∀ v, F28 v W → F28 v w) ∧ (∀ v, F32 v W → F32 v w) ∧ (∀ v, F33 v W → F33 v w) ∧ (∀ v, F34 v W → F34 v w) ∧ (∀ v, F35 v W → F35 v w) ∧ (∀ v, F36 v W → F36 v w) ∧ (∀ v, F37 v W → F37 v w) ∧ (∀ v, F38 v W → F38 v w) ∧ (∀ v, F39 v W → F39 v w) ∧ (∀ v, F40 v W → F40 v w) ∧ True)
    )
    (o16 : ∀ k : Nat, 0 ≤ k → k ≤ 2 → ∀ W, S { w with drawn := w.drawn + 1 } W → C k W → 
      Does Try.prog (Instr.indexAt 44 it0 it9) W fun t83 w =>
      (E W w ∧ C k w ∧ F16 t83 w)
    )
    (o17 : ∀ t83 : Value, ∀ k : Nat, 0 ≤ k → k ≤ 2 → ∀ W, S { w with drawn := w.drawn + 1 } W → C k W → F16 t83 W → 
      Does Try.prog (Instr.fieldAt 54 t83 0) W fun t84 w =>
      (E W w ∧ C k w ∧ F17 t84 w)
    )
    (o18 : ∀ t84 : Value, ∀ k : Nat, 0 ≤ k → k ≤ 1 → ∀ W, S { w with drawn := w.drawn + 1 } W → C k W → F17 t84 W → 
      Does Try.prog (Instr.loadAt 9 t84) W fun t85 w =>
      (E W w ∧ C k w ∧ F18 t85 w)
    )
    (o21 : ∀ k : Nat, 0 ≤ k → k ≤ 2 → ∀ W, S { w with drawn := w.drawn + 1 } W → C k W → 
      Does Try.prog (Instr.indexAt 44 it0 it9) W fun t88 w =>
      (E W w ∧ C k w ∧ F21 t88 w)
    )
    (o22 : ∀ t88 : Value, ∀ k : Nat, 0 ≤ k → k ≤ 2 → ∀ W, S { w with drawn := w.drawn + 1 } W → C k W → F21 t88 W → 
      Does Try.prog (Instr.fieldAt 54 t88 1) W fun t89 w =>
      (E W w ∧ C k w ∧ F22 t89 w)
    )
    (o23 : ∀ t89 : Value, ∀ k : Nat, 0 ≤ k → k ≤ 1 → ∀ W, S { w with drawn := w.drawn + 1 } W → C k W → F22 t89 W → 
      Does Try.prog (Instr.loadAt 23 t89) W fun t90 w =>
      (E W w ∧ C k w ∧ F23 t90 w)
    )
    (o26 : ∀ k : Nat, 0 ≤ k → k ≤ 2 → ∀ W, S { w with drawn := w.drawn + 1 } W → C k W → 
      Does Try.prog (Instr.indexAt 44 it0 it9) W fun t93 w =>
      (E W w ∧ C k w ∧ F26 t93 w)
    )
    (o27 : ∀ t93 : Value, ∀ k : Nat, 0 ≤ k → k ≤ 2 → ∀ W, S { w with drawn := w.drawn + 1 } W → C k W → F26 t93 W → 
      Does Try.prog (Instr.fieldAt 54 t93 2) W fun t94 w =>
      (E W w ∧ C k w ∧ F27 t94 w)
    )
    (o28 : ∀ t94 : Value, ∀ k : Nat, 0 ≤ k → k ≤ 1 → ∀ W, S { w with drawn := w.drawn + 1 } W → C k W → F27 t94 W → 
      Does Try.prog (Instr.loadAt 3 t94) W fun t95 w =>
      (E W w ∧ C k w ∧ F28 t95 w)
    )
    (o29 : ∀ t85 t90 t95 : Value, ∀ W, S { w with drawn := w.drawn + 1 } W → C 1 W → F18 t85 W → F23 t90 W → F28 t95 W → 
      Call Try.prog 23 #[it8, t85, t90, t95] W fun t96 w =>
      (S W w ∧ C 2 w ∧ F29 t96 w ∧ (∀ v, F3 v W → F3 v w) ∧ (∀ v, F4 v W → F4 v w) ∧ (∀ v, F5 v W → F5 v w) ∧ (∀ v, F9 v W → F9 v w) ∧ (∀ v, F10 v W → F10 v w) ∧ (∀ v, F11 v W → F11 v w) ∧ (∀ v, F12 v W → F12 v w) ∧ (∀ v, F16 v W → F16 v w) ∧ (∀ v, F17 v W → F17 v w) ∧ (∀ v, F18 v W → F18 v w) ∧ (∀ v, F21 v W → F21 v w) ∧ (∀ v, F22 v W → F22 v w) ∧ (∀ v, F23 v W → F23 v w) ∧ (∀ v, F26 v W → F26 v w) ∧ (∀ v, F27 v W → F27 v w) ∧ (∀ v, F28 v W → F28 v w) ∧ (∀ v, F32 v W → F32 v w) ∧ (∀ v, F33 v W → F33 v w) ∧ (∀ v, F34 v W → F34 v w) ∧ (∀ v, F35 v W → F35 v w) ∧ (∀ v, F36 v W → F36 v w) ∧ (∀ v, F37 v W → F37 v w) ∧ (∀ v, F38 v W → F38 v w) ∧ (∀ v, F39 v W → F39 v w) ∧ (∀ v, F40 v W → F40 v w) ∧ True)
    )
    (o30 : ∀ t79 t96 : Value, ∀ W, S { w with drawn := w.drawn + 1 } W → C 2 W → F12 t79 W → F29 t96 W → 
      Does Try.prog (eqE .neq 29 (Go.Operand.tmp 79) (Go.Operand.tmp 96) t79 t96) W fun t97 w =>
      (E W w ∧ C 2 w ∧ F30 t97 w)
    )
    (o32 : ∀ t98 : Value, ∀ k : Nat, 0 ≤ k → k ≤ 2 → ∀ W, S { w with drawn := w.drawn + 1 } W → C k W → F30 t98 W → 
      GuardP t98 false (
      (E W W ∧ C k W ∧ F32 it10 W)
      ) (C k W ∧ F32 undef W)
    )
    (o33 : ∀ t98 : Value, ∀ k : Nat, 0 ≤ k → k ≤ 2 → ∀ W, S { w with drawn := w.drawn + 1 } W → C k W → F30 t98 W → 
      GuardP t98 false (
      (E W W ∧ C k W ∧ F33 it0 W)
      ) (C k W ∧ F33 undef W)
    )
    (o34 : ∀ t98 : Value, ∀ k : Nat, 0 ≤ k → k ≤ 2 → ∀ W, S { w with drawn := w.drawn + 1 } W → C k W → F30 t98 W → 
      GuardP t98 false (
      (E W W ∧ C k W ∧ F34 it9 W)
      ) (C k W ∧ F34 undef W)
    )
    (o35 : ∀ t100 t101 t98 : Value, ∀ k : Nat, 0 ≤ k → k ≤ 2 → ∀ W, S { w with drawn := w.drawn + 1 } W → C k W → F33 t100 W → F34 t101 W → F30 t98 W → 
      GuardP t98 false (
      Does Try.prog (Instr.indexAt 44 t100 t101) W fun t102 w =>
      (E W w ∧ C k w ∧ F35 t102 w)
      ) (C k W ∧ F35 undef W)
    )
    (o36 : ∀ t102 t98 : Value, ∀ k : Nat, 0 ≤ k → k ≤ 2 → ∀ W, S { w with drawn := w.drawn + 1 } W → C k W → F35 t102 W → F30 t98 W → 
      GuardP t98 false (
      Does Try.prog (Instr.fieldAt 54 t102 1) W fun t103 w =>
      (E W w ∧ C k w ∧ F36 t103 w)
      ) (C k W ∧ F36 undef W)
    )
    (o37 : ∀ t103 t98 : Value, ∀ k : Nat, 0 ≤ k → k ≤ 2 → ∀ W, S { w with drawn := w.drawn + 1 } W → C k W → F36 t103 W → F30 t98 W → 
      GuardP t98 false (
      Does Try.prog (Instr.loadAt 23 t103) W fun t104 w =>
      (E W w ∧ C k w ∧ F37 t104 w)
      ) (C k W ∧ F37 undef W)
    )
    (o38 : ∀ t99 t104 t98 : Value, ∀ k : Nat, 0 ≤ k → k ≤ 2 → ∀ W, S { w with drawn := w.drawn + 1 } W → C k W → F32 t99 W → F37 t104 W → F30 t98 W → 
      GuardP t98 false (
      Call Try.prog 24 #[t99, t104] W fun t105 w =>
      (E W w ∧ C k w ∧ F38 t105 w)
      ) (C k W ∧ F38 undef W)
    )
    (o39 : ∀ t105 t98 : Value, ∀ k : Nat, 0 ≤ k → k ≤ 2 → ∀ W, S { w with drawn := w.drawn + 1 } W → C k W → F38 t105 W → F30 t98 W → 
      GuardP t98 false (
      Does Try.prog (Op.unary Go.UnOp.not t105) W fun t106 w =>
      (E W w ∧ C k w ∧ F39 t106 w)
      ) (C k W ∧ F39 undef W)
    )
    (o40 : ∀ t98 t106 : Value, ∀ k : Nat, 0 ≤ k → k ≤ 2 → ∀ W, S { w with drawn := w.drawn + 1 } W → C k W → F30 t98 W → F39 t106 W → 
      PickP t98 (Go.Value.bool true) t106 fun t107 =>
      (E W W ∧ C k W ∧ F40 t107 W)
    )
    (fin : ∀ t107 : Value, ∀ W, S { w with drawn := w.drawn + 1 } W → C 2 W → F40 t107 W → J t107 W) :
    DrawP Try.prog 289 (opsOf Try.f4 11) [0, 7, 8, 9, 10] [it0, it7, it8, it9, it10] [107] J w := by
  have hall : ∀ _ : Nat → Value,
    (∀ k : Nat, 0 ≤ k → k ≤ 0 → ∀ W, S { w with drawn := w.drawn + 1 } W → C k W → 
      (E W W ∧ C k W ∧ it7 = it7)
    ) ∧
    (∀ k : Nat, 0 ≤ k → k ≤ 2 → ∀ W, S { w with drawn := w.drawn + 1 } W → C k W → 
      (E W W ∧ C k W ∧ it0 = it0)
    ) ∧
    (∀ k : Nat, 0 ≤ k → k ≤ 2 → ∀ W, S { w with drawn := w.drawn + 1 } W → C k W → 
      (E W W ∧ C k W ∧ it9 = it9)
    ) ∧
    (∀ t68 t69 : Value, ∀ k : Nat, 0 ≤ k → k ≤ 2 → ∀ W, S { w with drawn := w.drawn + 1 } W → C k W → t68 = it0 → t69 = it9 → 
      Does Try.prog (Instr.indexAt 44 t68 t69) W fun t70 w =>
      (E W w ∧ C k w ∧ F3 t70 w)
    ) ∧
    (∀ t70 : Value, ∀ k : Nat, 0 ≤ k → k ≤ 2 → ∀ W, S { w with drawn := w.drawn + 1 } W → C k W → F3 t70 W → 
      Does Try.prog (Instr.fieldAt 54 t70 0) W fun t71 w =>
      (E W w ∧ C k w ∧ F4 t71 w)
    ) ∧
    (∀ t71 : Value, ∀ k : Nat, 0 ≤ k → k ≤ 0 → ∀ W, S { w with drawn := w.drawn + 1 } W → C k W → F4 t71 W → 
      Does Try.prog (Instr.loadAt 9 t71) W fun t72 w =>
      (E W w ∧ C k w ∧ F5 t72 w)
    ) ∧
    (∀ k : Nat, 0 ≤ k → k ≤ 0 → ∀ W, S { w with drawn := w.drawn + 1 } W → C k W → 
      (E W W ∧ C k W ∧ it10 = it10)
    ) ∧
    (∀ k : Nat, 0 ≤ k → k ≤ 2 → ∀ W, S { w with drawn := w.drawn + 1 } W → C k W → 
      (E W W ∧ C k W ∧ it0 = it0)
    ) ∧
    (∀ k : Nat, 0 ≤ k → k ≤ 2 → ∀ W, S { w with drawn := w.drawn + 1 } W → C k W → 
      (E W W ∧ C k W ∧ it9 = it9)
    ) ∧
    (∀ t74 t75 : Value, ∀ k : Nat, 0 ≤ k → k ≤ 2 → ∀ W, S { w with drawn := w.drawn + 1 } W → C k W → t74 = it0 → t75 = it9 → 
      Does Try.prog (Instr.indexAt 44 t74 t75) W fun t76 w =>
      (E W w ∧ C k w ∧ F9 t76 w)
    ) ∧
    (∀ t76 : Value, ∀ k : Nat, 0 ≤ k → k ≤ 2 → ∀ W, S { w with drawn := w.drawn + 1 } W → C k W → F9 t76 W → 
      Does Try.prog (Instr.fieldAt 54 t76 2) W fun t77 w =>
      (E W w ∧ C k w ∧ F10 t77 w)
    ) ∧
    (∀ t77 : Value, ∀ k : Nat, 0 ≤ k → k ≤ 0 → ∀ W, S { w with drawn := w.drawn + 1 } W → C k W → F10 t77 W → 
      Does Try.prog (Instr.loadAt 3 t77) W fun t78 w =>
      (E W w ∧ C k w ∧ F11 t78 w)
    ) ∧
    (∀ t67 t72 t73 t78 : Value, ∀ W, S { w with drawn := w.drawn + 1 } W → C 0 W → t67 = it7 → F5 t72 W → t73 = it10 → F11 t78 W → 
      Call Try.prog 22 #[t67, t72, t73, t78] W fun t79 w =>
      (S W w ∧ C 1 w ∧ F12 t79 w ∧ (∀ v : Value, v = it7 → v = it7) ∧ (∀ v : Value, v = it0 → v = it0) ∧ (∀ v : Value, v = it9 → v = it9) ∧ (∀ v : Value, F3 v W → F3 v w) ∧ (∀ v : Value, F4 v W → F4 v w) ∧ (∀ v : Value, F5 v W → F5 v w) ∧ (∀ v : Value, v = it10 → v = it10) ∧ (∀ v : Value, v = it0 → v = it0) ∧ (∀ v : Value, v = it9 → v = it9) ∧ (∀ v : Value, F9 v W → F9 v w) ∧ (∀ v : Value, F10 v W → F10 v w) ∧ (∀ v : Value, F11 v W → F11 v w) ∧ (∀ v : Value, v = it8 → v = it8) ∧ (∀ v : Value, v = it0 → v = it0) ∧ (∀ v : Value, v = it9 → v = it9) ∧ (∀ v : Value, F16 v W → F16 v w) ∧ (∀ v : Value, F17 v W → F17 v w) ∧ (∀ v : Value, F18 v W → F18 v w) ∧ (∀ v : Value, v = it0 → v = it0) ∧ (∀ v : Value, v = it9 → v = it9) ∧ (∀ v : Value, F21 v W → F21 v w) ∧ (∀ v : Value, F22 v W → F22 v w) ∧ (∀ v : Value, F23 v W → F23 v w) ∧ (∀ v : Value, v = it0 → v = it0) ∧ (∀ v : Value, v = it9 → v = it9) ∧ (∀ v : Value, F26 v W → F26 v w) ∧ (∀ v : Value, F27 v W → F27 v w) ∧ (∀ v : Value, F28 v W → F28 v w) ∧ (∀ v : Value, F32 v W → F32 v w) ∧ (∀ v : Value, F33 v W → F33 v w) ∧ (∀ v : Value, F34 v W → F34 v w) ∧ (∀ v : Value, F35 v W → F35 v w) ∧ (∀ v : Value, F36 v W → F36 v w) ∧ (∀ v : Value, F37 v W → F37 v w) ∧ (∀ v : Value, F38 v W → F38 v w) ∧ (∀ v : Value, F39 v W → F39 v w) ∧ (∀ v : Value, F40 v W → F40 v w) ∧ True)
    ) ∧
    (∀ k : Nat, 0 ≤ k → k ≤ 1 → ∀ W, S { w with drawn := w.drawn + 1 } W → C k W → 
      (E W W ∧ C k W ∧ it8 = it8)
    ) ∧
    (∀ k : Nat, 0 ≤ k → k ≤ 2 → ∀ W, S { w with drawn := w.drawn + 1 } W → C k W → 
      (E W W ∧ C k W ∧ it0 = it0)
    ) ∧
    (∀ k : Nat, 0 ≤ k → k ≤ 2 → ∀ W, S { w with drawn := w.drawn + 1 } W → C k W → 
      (E W W ∧ C k W ∧ it9 = it9)
    ) ∧
    (∀ t81 t82 : Value, ∀ k : Nat, 0 ≤ k → k ≤ 2 → ∀ W, S { w with drawn := w.drawn + 1 } W → C k W → t81 = it0 → t82 = it9 → 
      Does Try.prog (Instr.indexAt 44 t81 t82) W fun t83 w =>
      (E W w ∧ C k w ∧ F16 t83 w)
    ) ∧
    (∀ t83 : Value, ∀ k : Nat, 0 ≤ k → k ≤ 2 → ∀ W, S { w with drawn := w.drawn + 1 } W → C k W → F16 t83 W → 
      Does Try.prog (Instr.fieldAt 54 t83 0) W fun t84 w =>
      (E W w ∧ C k w ∧ F17 t84 w)
    ) ∧
    (∀ t84 : Value, ∀ k : Nat, 0 ≤ k → k ≤ 1 → ∀ W, S { w with drawn := w.drawn + 1 } W → C k W → F17 t84 W → 
      Does Try.prog (Instr.loadAt 9 t84) W fun t85 w =>
      (E W w ∧ C k w ∧ F18 t85 w)
    ) ∧
    (∀ k : Nat, 0 ≤ k → k ≤ 2 → ∀ W, S { w with drawn := w.drawn + 1 } W → C k W → 
      (E W W ∧ C k W ∧ it0 = it0)
    ) ∧
    (∀ k : Nat, 0 ≤ k → k ≤ 2 → ∀ W, S { w with drawn := w.drawn + 1 } W → C k W → 
      (E W W ∧ C k W ∧ it9 = it9)
    ) ∧
    (∀ t86 t87 : Value, ∀ k : Nat, 0 ≤ k → k ≤ 2 → ∀ W, S { w with drawn := w.drawn + 1 } W → C k W → t86 = it0 → t87 = it9 → 
      Does Try.prog (Instr.indexAt 44 t86 t87) W fun t88 w =>
      (E W w ∧ C k w ∧ F21 t88 w)
    ) ∧
    (∀ t88 : Value, ∀ k : Nat, 0 ≤ k → k ≤ 2 → ∀ W, S { w with drawn := w.drawn + 1 } W → C k W → F21 t88 W → 
      Does Try.prog (Instr.fieldAt 54 t88 1) W fun t89 w =>
      (E W w ∧ C k w ∧ F22 t89 w)
    ) ∧
    (∀ t89 : Value, ∀ k : Nat, 0 ≤ k → k ≤ 1 → ∀ W, S { w with drawn := w.drawn + 1 } W → C k W → F22 t89 W → 
      Does Try.prog (Instr.loadAt 23 t89) W fun t90 w =>
      (E W w ∧ C k w ∧ F23 t90 w)
    ) ∧
    (∀ k : Nat, 0 ≤ k → k ≤ 2 → ∀ W, S { w with drawn := w.drawn + 1 } W → C k W → 
      (E W W ∧ C k W ∧ it0 = it0)
    ) ∧
    (∀ k : Nat, 0 ≤ k → k ≤ 2 → ∀ W, S { w with drawn := w.drawn + 1 } W → C k W → 
      (E W W ∧ C k W ∧ it9 = it9)
    ) ∧
    (∀ t91 t92 : Value, ∀ k : Nat, 0 ≤ k → k ≤ 2 → ∀ W, S { w with drawn := w.drawn + 1 } W → C k W → t91 = it0 → t92 = it9 → 
      Does Try.prog (Instr.indexAt 44 t91 t92) W fun t93 w =>
      (E W w ∧ C k w ∧ F26 t93 w)
    ) ∧
    (∀ t93 : Value, ∀ k : Nat, 0 ≤ k → k ≤ 2 → ∀ W, S { w with drawn := w.drawn + 1 } W → C k W → F26 t93 W → 
      Does Try.prog (Instr.fieldAt 54 t93 2) W fun t94 w =>
      (E W w ∧ C k w ∧ F27 t94 w)
    ) ∧
    (∀ t94 : Value, ∀ k : Nat, 0 ≤ k → k ≤ 1 → ∀ W, S { w with drawn := w.drawn + 1 } W → C k W → F27 t94 W → 
      Does Try.prog (Instr.loadAt 3 t94) W fun t95 w =>
      (E W w ∧ C k w ∧ F28 t95 w)
    ) ∧
    (∀ t80 t85 t90 t95 : Value, ∀ W, S { w with drawn := w.drawn + 1 } W → C 1 W → t80 = it8 → F18 t85 W → F23 t90 W → F28 t95 W → 
      Call Try.prog 23 #[t80, t85, t90, t95] W fun t96 w =>
      (S W w ∧ C 2 w ∧ F29 t96 w ∧ (∀ v : Value, v = it7 → v = it7) ∧ (∀ v : Value, v = it0 → v = it0) ∧ (∀ v : Value, v = it9 → v = it9) ∧ (∀ v : Value, F3 v W → F3 v w) ∧ (∀ v : Value, F4 v W → F4 v w) ∧ (∀ v : Value, F5 v W → F5 v w) ∧ (∀ v : Value, v = it10 → v = it10) ∧ (∀ v : Value, v = it0 → v = it0) ∧ (∀ v : Value, v = it9 → v = it9) ∧ (∀ v : Value, F9 v W → F9 v w) ∧ (∀ v : Value, F10 v W → F10 v w) ∧ (∀ v : Value, F11 v W → F11 v w) ∧ (∀ v : Value, F12 v W → F12 v w) ∧ (∀ v : Value, v = it8 → v = it8) ∧ (∀ v : Value, v = it0 → v = it0) ∧ (∀ v : Value, v = it9 → v = it9) ∧ (∀ v : Value, F16 v W → F16 v w) ∧ (∀ v : Value, F17 v W → F17 v w) ∧ (∀ v : Value, F18 v W → F18 v w) ∧ (∀ v : Value, v = it0 → v = it0) ∧ (∀ v : Value, v = it9 → v = it9) ∧ (∀ v : Value, F21 v W → F21 v w) ∧ (∀ v : Value, F22 v W → F22 v w) ∧ (∀ v : Value, F23 v W → F23 v w) ∧ (∀ v : Value, v = it0 → v = it0) ∧ (∀ v : Value, v = it9 → v = it9) ∧ (∀ v : Value, F26 v W → F26 v w) ∧ (∀ v : Value, F27 v W → F27 v w) ∧ (∀ v : Value, F28 v W → F28 v w) ∧ (∀ v : Value, F32 v W → F32 v w) ∧ (∀ v : Value, F33 v W → F33 v w) ∧ (∀ v : Value, F34 v W → F34 v w) ∧ (∀ v : Value, F35 v W → F35 v w) ∧ (∀ v : Value, F36 v W → F36 v w) ∧ (∀ v : Value, F37 v W → F37 v w) ∧ (∀ v : Value, F38 v W → F38 v w) ∧ (∀ v : Value, F39 v W → F39 v w) ∧ (∀ v : Value, F40 v W → F40 v w) ∧ True)
    ) ∧
    (∀ t79 t96 : Value, ∀ k : Nat, 2 ≤ k → k ≤ 2 → ∀ W, S { w with drawn := w.drawn + 1 } W → C k W → F12 t79 W → F29 t96 W → 
      Does Try.prog (eqE .neq 29 (Go.Operand.tmp 79) (Go.Operand.tmp 96) t79 t96) W fun t97 w =>
      (E W w ∧ C k w ∧ F30 t97 w)
    ) ∧
    (∀ t97 : Value, ∀ k : Nat, 2 ≤ k → k ≤ 2 → ∀ W, S { w with drawn := w.drawn + 1 } W → C k W → F30 t97 W → 
      (E W W ∧ C k W ∧ F30 t97 W)
    ) ∧
    (∀ t98 : Value, ∀ k : Nat, 0 ≤ k → k ≤ 2 → ∀ W, S { w with drawn := w.drawn + 1 } W → C k W → F30 t98 W → 
      GuardP t98 false (
      (E W W ∧ C k W ∧ F32 it10 W)
      ) (C k W ∧ F32 undef W)
    ) ∧
    (∀ t98 : Value, ∀ k : Nat, 0 ≤ k → k ≤ 2 → ∀ W, S { w with drawn := w.drawn + 1 } W → C k W → F30 t98 W → 
      GuardP t98 false (
      (E W W ∧ C k W ∧ F33 it0 W)
      ) (C k W ∧ F33 undef W)
    ) ∧
    (∀ t98 : Value, ∀ k : Nat, 0 ≤ k → k ≤ 2 → ∀ W, S { w with drawn := w.drawn + 1 } W → C k W → F30 t98 W → 
      GuardP t98 false (
      (E W W ∧ C k W ∧ F34 it9 W)
      ) (C k W ∧ F34 undef W)
    ) ∧
    (∀ t100 t101 t98 : Value, ∀ k : Nat, 0 ≤ k → k ≤ 2 → ∀ W, S { w with drawn := w.drawn + 1 } W → C k W → F33 t100 W → F34 t101 W → F30 t98 W → 
      GuardP t98 false (
      Does Try.prog (Instr.indexAt 44 t100 t101) W fun t102 w =>
      (E W w ∧ C k w ∧ F35 t102 w)
      ) (C k W ∧ F35 undef W)
    ) ∧
    (∀ t102 t98 : Value, ∀ k : Nat, 0 ≤ k → k ≤ 2 → ∀ W, S { w with drawn := w.drawn + 1 } W → C k W → F35 t102 W → F30 t98 W → 
      GuardP t98 false (
      Does Try.prog (Instr.fieldAt 54 t102 1) W fun t103 w =>
      (E W w ∧ C k w ∧ F36 t103 w)
      ) (C k W ∧ F36 undef W)
    ) ∧
    (∀ t103 t98 : Value, ∀ k : Nat, 0 ≤ k → k ≤ 2 → ∀ W, S { w with drawn := w.drawn + 1 } W → C k W → F36 t103 W → F30 t98 W → 
      GuardP t98 false (
      Does Try.prog (Instr.loadAt 23 t103) W fun t104 w =>
      (E W w ∧ C k w ∧ F37 t104 w)
      ) (C k W ∧ F37 undef W)
    ) ∧
    (∀ t99 t104 t98 : Value, ∀ k : Nat, 0 ≤ k → k ≤ 2 → ∀ W, S { w with drawn := w.drawn + 1 } W → C k W → F32 t99 W → F37 t104 W → F30 t98 W → 
      GuardP t98 false (
      Call Try.prog 24 #[t99, t104] W fun t105 w =>
      (E W w ∧ C k w ∧ F38 t105 w)
      ) (C k W ∧ F38 undef W)
    ) ∧
    (∀ t105 t98 : Value, ∀ k : Nat, 0 ≤ k → k ≤ 2 → ∀ W, S { w with drawn := w.drawn + 1 } W → C k W → F38 t105 W → F30 t98 W → 
      GuardP t98 false (
      Does Try.prog (Op.unary Go.UnOp.not t105) W fun t106 w =>
      (E W w ∧ C k w ∧ F39 t106 w)
      ) (C k W ∧ F39 undef W)
    ) ∧
    (∀ t98 t106 : Value, ∀ k : Nat, 0 ≤ k → k ≤ 2 → ∀ W, S { w with drawn := w.drawn + 1 } W → C k W → F30 t98 W → F39 t106 W → 
      PickP t98 (Go.Value.bool true) t106 fun t107 =>
      (E W W ∧ C k W ∧ F40 t107 W)
    ) ∧ True := fun _ => ⟨
    fun  k hk1 hk2 W hS hC  => ⟨he W, hC, by first | rfl | simp_all⟩,
    fun  k hk1 hk2 W hS hC  => ⟨he W, hC, by first | rfl | simp_all⟩,
    fun  k hk1 hk2 W hS hC  => ⟨he W, hC, by first | rfl | simp_all⟩,
    fun t68 t69 k hk1 hk2 W hS hC ht68 ht69 => (by subst ht68; subst ht69; exact o3  k hk1 hk2 W hS hC ),
    fun t70 k hk1 hk2 W hS hC ht70 => (by exact o4 t70 k hk1 hk2 W hS hC ht70),
    fun t71 k hk1 hk2 W hS hC ht71 => (by obtain rfl : k = 0 := (by omega); exact o5 t71 W hS hC ht71),
    fun  k hk1 hk2 W hS hC  => ⟨he W, hC, by first | rfl | simp_all⟩,
    fun  k hk1 hk2 W hS hC  => ⟨he W, hC, by first | rfl | simp_all⟩,
    fun  k hk1 hk2 W hS hC  => ⟨he W, hC, by first | rfl | simp_all⟩,
    fun t74 t75 k hk1 hk2 W hS hC ht74 ht75 => (by subst ht74; subst ht75; exact o9  k hk1 hk2 W hS hC ),
    fun t76 k hk1 hk2 W hS hC ht76 => (by exact o10 t76 k hk1 hk2 W hS hC ht76),
    fun t77 k hk1 hk2 W hS hC ht77 => (by obtain rfl : k = 0 := (by omega); exact o11 t77 W hS hC ht77),
    fun t67 t72 t73 t78 W hS hC ht67 ht72 ht73 ht78 => (by subst ht67; subst ht73; exact Call.mono (o12 t72 t78 W hS hC ht72 ht78) fun _ _ h => ⟨h.1, h.2.1, h.2.2.1, fun _ h => h, fun _ h => h, fun _ h => h, h.2.2.2.1, h.2.2.2.2.1, h.2.2.2.2.2.1, fun _ h => h, fun _ h => h, fun _ h => h, h.2.2.2.2.2.2.1, h.2.2.2.2.2.2.2.1, h.2.2.2.2.2.2.2.2.1, fun _ h => h, fun _ h => h, fun _ h => h, h.2.2.2.2.2.2.2.2.2.1, h.2.2.2.2.2.2.2.2.2.2.1, h.2.2.2.2.2.2.2.2.2.2.2.1, fun _ h => h, fun _ h => h, h.2.2.2.2.2.2.2.2.2.2.2.2.1, h.2.2.2.2.2.2.2.2.2.2.2.2.2.1, h.2.2.2.2.2.2.2.2.2.2.2.2.2.2.1, fun _ h => h, fun _ h => h, h.2.2.2.2.2.2.2.2.2.2.2.2.2.2.2.1, h.2.2.2.2.2.2.2.2.2.2.2.2.2.2.2.2.1, h.2.2.2.2.2.2.2.2.2.2.2.2.2.2.2.2.2.1, h.2.2.2.2.2.2.2.2.2.2.2.2.2.2.2.2.2.2.1, h.2.2.2.2.2.2.2.2.2.2.2.2.2.2.2.2.2.2.2.1, h.2.2.2.2.2.2.2.2.2.2.2.2.2.2.2.2.2.2.2.2.1, h.2.2.2.2.2.2.2.2.2.2.2.2.2.2.2.2.2.2.2.2.2.1, h.2.2.2.2.2.2.2.2.2.2.2.2.2.2.2.2.2.2.2.2.2.2.1, h.2.2.2.2.2.2.2.2.2.2.2.2.2.2.2.2.2.2.2.2.2.2.2.1, h.2.2.2.2.2.2.2.2.2.2.2.2.2.2.2.2.2.2.2.2.2.2.2.2.1, h.2.2.2.2.2.2.2.2.2.2.2.2.2.2.2.2.2.2.2.2.2.2.2.2.2.1, h.2.2.2.2.2.2.2.2.2.2.2.2.2.2.2.2.2.2.2.2.2.2.2.2.2.2.1, trivial⟩),
    fun  k hk1 hk2 W hS hC  => ⟨he W, hC, by first | rfl | simp_all⟩,
    fun  k hk1 hk2 W hS hC  => ⟨he W, hC, by first | rfl | simp_all⟩,
    fun  k hk1 hk2 W hS hC  => ⟨he W, hC, by first | rfl | simp_all⟩,
    fun t81 t82 k hk1 hk2 W hS hC ht81 ht82 => (by subst ht81; subst ht82; exact o16  k hk1 hk2 W hS hC ),
    fun t83 k hk1 hk2 W hS hC ht83 => (by exact o17 t83 k hk1 hk2 W hS hC ht83),
    fun t84 k hk1 hk2 W hS hC ht84 => (by exact o18 t84 k hk1 hk2 W hS hC ht84),
    fun  k hk1 hk2 W hS hC  => ⟨he W, hC, by first | rfl | simp_all⟩,
    fun  k hk1 hk2 W hS hC  => ⟨he W, hC, by first | rfl | simp_all⟩,
    fun t86 t87 k hk1 hk2 W hS hC ht86 ht87 => (by subst ht86; subst ht87; exact o21  k hk1 hk2 W hS hC ),
    fun t88 k hk1 hk2 W hS hC ht88 => (by exact o22 t88 k hk1 hk2 W hS hC ht88),
    fun t89 k hk1 hk2 W hS hC ht89 => (by exact o23 t89 k hk1 hk2 W hS hC ht89),
    fun  k hk1 hk2 W hS hC  => ⟨he W, hC, by first | rfl | simp_all⟩,
    fun  k hk1 hk2 W hS hC  => ⟨he W, hC, by first | rfl | simp_all⟩,
    fun t91 t92 k hk1 hk2 W hS hC ht91 ht92 => (by subst ht91; subst ht92; exact o26  k hk1 hk2 W hS hC ),
    fun t93 k hk1 hk2 W hS hC ht93 => (by exact o27 t93 k hk1 hk2 W hS hC ht93),
    fun t94 k hk1 hk2 W hS hC ht94 => (by exact o28 t94 k hk1 hk2 W hS hC ht94),
    fun t80 t85 t90 t95 W hS hC ht80 ht85 ht90 ht95 => (by subst ht80; exact Call.mono (o29 t85 t90 t95 W hS hC ht85 ht90 ht95) fun _ _ h => ⟨h.1, h.2.1, h.2.2.1, fun _ h => h, fun _ h => h, fun _ h => h, h.2.2.2.1, h.2.2.2.2.1, h.2.2.2.2.2.1, fun _ h => h, fun _ h => h, fun _ h => h, h.2.2.2.2.2.2.1, h.2.2.2.2.2.2.2.1, h.2.2.2.2.2.2.2.2.1, h.2.2.2.2.2.2.2.2.2.1, fun _ h => h, fun _ h => h, fun _ h => h, h.2.2.2.2.2.2.2.2.2.2.1, h.2.2.2.2.2.2.2.2.2.2.2.1, h.2.2.2.2.2.2.2.2.2.2.2.2.1, fun _ h => h, fun _ h => h, h.2.2.2.2.2.2.2.2.2.2.2.2.2.1, h.2.2.2.2.2.2.2.2.2.2.2.2.2.2.1, h.2.2.2.2.2.2.2.2.2.2.2.2.2.2.2.1, fun _ h => h, fun _ h => h, h.2.2.2.2.2.2.2.2.2.2.2.2.2.2.2.2.1, h.2.2.2.2.2.2.2.2.2.2.2.2.2.2.2.2.2.1, h.2.2.2.2.2.2.2.2.2.2.2.2.2.2.2.2.2.2.1, h.2.2.2.2.2.2.2.2.2.2.2.2.2.2.2.2.2.2.2.1, h.2.2.2.2.2.2.2.2.2.2.2.2.2.2.2.2.2.2.2.2.1, h.2.2.2.2.2.2.2.2.2.2.2.2.2.2.2.2.2.2.2.2.2.1, h.2.2.2.2.2.2.2.2.2.2.2.2.2.2.2.2.2.2.2.2.2.2.1, h.2.2.2.2.2.2.2.2.2.2.2.2.2.2.2.2.2.2.2.2.2.2.2.1, h.2.2.2.2.2.2.2.2.2.2.2.2.2.2.2.2.2.2.2.2.2.2.2.2.1, h.2.2.2.2.2.2.2.2.2.2.2.2.2.2.2.2.2.2.2.2.2.2.2.2.2.1, h.2.2.2.2.2.2.2.2.2.2.2.2.2.2.2.2.2.2.2.2.2.2.2.2.2.2.1, h.2.2.2.2.2.2.2.2.2.2.2.2.2.2.2.2.2.2.2.2.2.2.2.2.2.2.2.1, trivial⟩),
    fun t79 t96 k hk1 hk2 W hS hC ht79 ht96 => (by obtain rfl : k = 2 := (by omega); exact o30 t79 t96 W hS hC ht79 ht96),
    fun t97 k hk1 hk2 W hS hC ht97 => ⟨he W, hC, ht97⟩,
    fun t98 k hk1 hk2 W hS hC ht98 => (by exact o32 t98 k hk1 hk2 W hS hC ht98),
    fun t98 k hk1 hk2 W hS hC ht98 => (by exact o33 t98 k hk1 hk2 W hS hC ht98),
    fun t98 k hk1 hk2 W hS hC ht98 => (by exact o34 t98 k hk1 hk2 W hS hC ht98),
    fun t100 t101 t98 k hk1 hk2 W hS hC ht100 ht101 ht98 => (by exact o35 t100 t101 t98 k hk1 hk2 W hS hC ht100 ht101 ht98),
    fun t102 t98 k hk1 hk2 W hS hC ht102 ht98 => (by exact o36 t102 t98 k hk1 hk2 W hS hC ht102 ht98),
    fun t103 t98 k hk1 hk2 W hS hC ht103 ht98 => (by exact o37 t103 t98 k hk1 hk2 W hS hC ht103 ht98),
    fun t99 t104 t98 k hk1 hk2 W hS hC ht99 ht104 ht98 => (by exact o38 t99 t104 t98 k hk1 hk2 W hS hC ht99 ht104 ht98),
    fun t105 t98 k hk1 hk2 W hS hC ht105 ht98 => (by exact o39 t105 t98 k hk1 hk2 W hS hC ht105 ht98),
    fun t98 t106 k hk1 hk2 W hS hC ht98 ht106 => (by exact o40 t98 t106 k hk1 hk2 W hS hC ht98 ht106),
    trivial⟩
  have hst := lkF_st (S := E) (l := [(0, fun v _ => v = it7), (1, fun v _ => v = it0), (2, fun v _ => v = it9), (3, F3), (4, F4), (5, F5), (6, fun v _ => v = it10), (7, fun v _ => v = it0), (8, fun v _ => v = it9), (9, F9), (10, F10), (11, F11), (12, F12), (13, fun v _ => v = it8), (14, fun v _ => v = it0), (15, fun v _ => v = it9), (16, F16), (17, F17), (18, F18), (19, fun v _ => v = it0), (20, fun v _ => v = it9), (21, F21), (22, F22), (23, F23), (24, fun v _ => v = it0), (25, fun v _ => v = it9), (26, F26), (27, F27), (28, F28), (29, F29), (30, F30), (31, F30), (32, F32), (33, F33), (34, F34), (35, F35), (36, F36), (37, F37), (38, F38), (39, F39), (40, F40)]) (fun p hp => by
    simp only [List.mem_cons, List.not_mem_nil, or_false] at hp
    rcases hp with rfl | rfl | rfl | rfl | rfl | rfl | rfl | rfl | rfl | rfl | rfl | rfl | rfl | rfl | rfl | rfl | rfl | rfl | rfl | rfl | rfl | rfl | rfl | rfl | rfl | rfl | rfl | rfl | rfl | rfl | rfl | rfl | rfl | rfl | rfl | rfl | rfl | rfl | rfl | rfl | rfl
    · exact FSt.const _
    · exact FSt.const _
    · exact FSt.const _
    · exact s3
    · exact s4
    · exact s5
    · exact FSt.const _
    · exact FSt.const _
    · exact FSt.const _
    · exact s9
    · exact s10
    · exact s11
    · exact s12
    · exact FSt.const _
    · exact FSt.const _
    · exact FSt.const _
    · exact s16
    · exact s17
    · exact s18
    · exact FSt.const _
    · exact FSt.const _
    · exact s21
    · exact s22
    · exact s23
    · exact FSt.const _
    · exact FSt.const _
    · exact s26
    · exact s27
    · exact s28
    · exact s29
    · exact s30
    · exact s30
    · exact s32
    · exact s33
    · exact s34
    · exact s35
    · exact s36
    · exact s37
    · exact s38
    · exact s39
    · exact s40
    )
  have hf : ∀ t107 : Value, ∀ W, S { w with drawn := w.drawn + 1 } W → C 2 W → F40 t107 W → J t107 W := fun t107 W hS hC ht107 => (by exact fin t107 W hS hC ht107)
  exact draw_phi (T := [12, 29]) E S C (lkF [(0, fun v _ => v = it7), (1, fun v _ => v = it0), (2, fun v _ => v = it9), (3, F3), (4, F4), (5, F5), (6, fun v _ => v = it10), (7, fun v _ => v = it0), (8, fun v _ => v = it9), (9, F9), (10, F10), (11, F11), (12, F12), (13, fun v _ => v = it8), (14, fun v _ => v = it0), (15, fun v _ => v = it9), (16, F16), (17, F17), (18, F18), (19, fun v _ => v = it0), (20, fun v _ => v = it9), (21, F21), (22, F22), (23, F23), (24, fun v _ => v = it0), (25, fun v _ => v = it9), (26, F26), (27, F27), (28, F28), (29, F29), (30, F30), (31, F30), (32, F32), (33, F33), (34, F34), (35, F35), (36, F36), (37, F37), (38, F38), (39, F39), (40, F40)]) (by kernel_rfl) hr ht hES hst h0 (Eq.mp (by kernel_rfl) hall) (Eq.mp (by kernel_rfl) hf)

theorem p4_13 {it0 it7 it8 it9 : Value} {w : World} {J : VF 1} (S : World → World → Prop) (F1 F3 F4 F5 F6 F7 F9 F10 F11 F12 F13 F14 F15 F16 F17 F18 F19 F20 F21 F22 F23 F24 F26 F27 F28 F29 F30 F31 F32 F33 F34 F35 F36 F37 F38 F39 F40 F41 F43 F44 F45 F46 F47 F48 F49 F50 F51 F52 F53 F54 F55 F56 F57 F58 F59 : Value → World → Prop) 
    (hr : ∀ W, S W W) (ht : ∀ a b c, S a b → S b c → S a c) (s1 : FSt S F1) (s3 : FSt S F3) (s4 : FSt S F4) (s5 : FSt S F5) (s6 : FSt S F6) (s7 : FSt S F7) (s9 : FSt S F9) (s10 : FSt S F10) (s11 : FSt S F11) (s12 : FSt S F12) (s13 : FSt S F13) (s14 : FSt S F14) (s15 : FSt S F15) (s16 : FSt S F16) (s17 : FSt S F17) (s18 : FSt S F18) (s19 : FSt S F19) (s20 : FSt S F20) (s21 : FSt S F21) (s22 : FSt S F22) (s23 : FSt S F23) (s24 : FSt S F24) (s26 : FSt S F26) (s27 : FSt S F27) (s28 : FSt S F28) (s29 : FSt S F29) (s30 : FSt S F30) (s31 : FSt S F31) (s32 : FSt S F32) (s33 : FSt S F33) (s34 : FSt S F34) (s35 : FSt S F35) (s36 : FSt S F36) (s37 : FSt S F37) (s38 : FSt S F38) (s39 : FSt S F39) (s40 : FSt S F40) (s41 : FSt S F41) (s43 : FSt S F43) (s44 : FSt S F44) (s45 : FSt S F45) (s46 : FSt S F46) (s47 : FSt S F47) (s48 : FSt S F48) (s49 : FSt S F49) (s50 : FSt S F50) (s51 : FSt S F51) (s52 : FSt S F52) (s53 : FSt S F53) (s54 : FSt S F54) (s55 : FSt S F55) (s56 : FSt S F56) (s57 : FSt S F57) (s58 : FSt S F58) (s59 : FSt S F59)
    (o1 : ∀ W, S { w with drawn := w.drawn + 1 } W → 
      Call Try.prog 25 #[it7] W fun t109 w =>
      (S W w ∧ True ∧ F1 t109 w)
    )
    (o3 : ∀ W, S { w with drawn := w.drawn + 1 } W → 
      NilCheckP it8 fun t111 =>
      (S W W ∧ True ∧ F3 t111 W)
    )
    (o4 : ∀ t111 : Value, ∀ W, S { w with drawn := w.drawn + 1 } W → F3 t111 W → 
      Does Try.prog (Instr.fieldAt 52 t111 0) W fun t112 w =>
      (S W w ∧ True ∧ F4 t112 w)
    )
    (o5 : ∀ t112 : Value, ∀ W, S { w with drawn := w.drawn + 1 } W → F4 t112 W → 
      Does Try.prog (Instr.loadAt 23 t112) W fun t113 w =>
      (S W w ∧ True ∧ F5 t113 w)
    )
    (o6 : ∀ t113 : Value, ∀ W, S { w with drawn := w.drawn + 1 } W → F5 t113 W → 
      Does Try.prog (Builtin.len_ #[23] 3 #[t113]) W fun t114 w =>
      (S W w ∧ True ∧ F6 t114 w)
    )
    (o7 : ∀ t109 t114 : Value, ∀ W, S { w with drawn := w.drawn + 1 } W → F1 t109 W → F6 t114 W → 
      Does Try.prog (eqE .neq 3 (Go.Operand.tmp 109) (Go.Operand.tmp 114) t109 t114) W fun t115 w =>
      (S W w ∧ True ∧ F7 t115 w)
    )
    (o9 : ∀ t116 : Value, ∀ W, S { w with drawn := w.drawn + 1 } W → F7 t116 W → 
      GuardP t116 false (
      (S W W ∧ True ∧ F9 it7 W)
      ) (True ∧ F9 undef W)
    )
    (o10 : ∀ t116 : Value, ∀ W, S { w with drawn := w.drawn + 1 } W → F7 t116 W → 
      GuardP t116 false (
      (S W W ∧ True ∧ F10 it0 W)
      ) (True ∧ F10 undef W)
    )
    (o11 : ∀ t116 : Value, ∀ W, S { w with drawn := w.drawn + 1 } W → F7 t116 W → 
      GuardP t116 false (
      (S W W ∧ True ∧ F11 it9 W)
      ) (True ∧ F11 undef W)
    )
    (o12 : ∀ t118 t119 t116 : Value, ∀ W, S { w with drawn := w.drawn + 1 } W → F10 t118 W → F11 t119 W → F7 t116 W → 
      GuardP t116 false (
      Does Try.prog (Instr.indexAt 44 t118 t119) W fun t120 w =>
      (S W w ∧ True ∧ F12 t120 w)
      ) (True ∧ F12 undef W)
    )
    (o13 : ∀ t120 t116 : Value, ∀ W, S { w with drawn := w.drawn + 1 } W → F12 t120 W → F7 t116 W → 
      GuardP t116 false (
      Does Try.prog (Instr.fieldAt 54 t120 0) W fun t121 w =>
      (S W w ∧ True ∧ F13 t121 w)
      ) (True ∧ F13 undef W)
    )
    (o14 : ∀ t121 t116 : Value, ∀ W, S { w with drawn := w.drawn + 1 } W → F13 t121 W → F7 t116 W → 
      GuardP t116 false (
      Does Try.prog (Instr.loadAt 9 t121) W fun t122 w =>
      (S W w ∧ True ∧ F14 t122 w)
      ) (True ∧ F14 undef W)
    )
    (o15 : ∀ t117 t122 t116 : Value, ∀ W, S { w with drawn := w.drawn + 1 } W → F9 t117 W → F14 t122 W → F7 t116 W → 
      GuardP t116 false (
      Call Try.prog 26 #[t117, t122] W fun t123 w =>
      (S W w ∧ True ∧ F15 t123 w)
      ) (True ∧ F15 undef W)
    )
    (o16 : ∀ t116 : Value, ∀ W, S { w with drawn := w.drawn + 1 } W → F7 t116 W → 
      GuardP t116 false (
      (S W W ∧ True ∧ F16 it8 W)
      ) (True ∧ F16 undef W)
    )
    (o17 : ∀ t116 : Value, ∀ W, S { w with drawn := w.drawn + 1 } W → F7 t116 W → 
      GuardP t116 false (
      (S W W ∧ True ∧ F17 it0 W)
      ) (True ∧ F17 undef W)
    )
    (o18 : ∀ t116 : Value, ∀ W, S { w with drawn := w.drawn + 1 } W → F7 t116 W → 
      GuardP t116 false (
      (S W W ∧ True ∧ F18 it9 W)
      ) (True ∧ F18 undef W)
    )
    (o19 : ∀ t125 t126 t116 : Value, ∀ W, S { w with drawn := w.drawn + 1 } W → F17 t125 W → F18 t126 W → F7 t116 W → 
      GuardP t116 false (
      Does Try.prog (Instr.indexAt 44 t125 t126) W fun t127 w =>
      (S W w ∧ True ∧ F19 t127 w)
      ) (True ∧ F19 undef W)
    )
    (o20 : ∀ t127 t116 : Value, ∀ W, S { w with drawn := w.drawn + 1 } W → F19 t127 W → F7 t116 W → 
      GuardP t116 false (
      Does Try.prog (Instr.fieldAt 54 t127 0) W fun t128 w =>
      (S W w ∧ True ∧ F20 t128 w)
      ) (True ∧ F20 undef W)
    )
    (o21 : ∀ t128 t116 : Value, ∀ W, S { w with drawn := w.drawn + 1 } W → F20 t128 W → F7 t116 W → 
      GuardP t116 false (
      Does Try.prog (Instr.loadAt 9 t128) W fun t129 w =>
      (S W w ∧ True ∧ F21 t129 w)
      ) (True ∧ F21 undef W)
    )
    (o22 : ∀ t124 t129 t116 : Value, ∀ W, S { w with drawn := w.drawn + 1 } W → F16 t124 W → F21 t129 W → F7 t116 W → 
      GuardP t116 false (
      Call Try.prog 27 #[t124, t129] W fun t130 w =>
      (S W w ∧ True ∧ F22 t130 w)
      ) (True ∧ F22 undef W)
    )
    (o23 : ∀ t123 t130 t116 : Value, ∀ W, S { w with drawn := w.drawn + 1 } W → F15 t123 W → F22 t130 W → F7 t116 W → 
      GuardP t116 false (
      Does Try.prog (eqE .neq 4 (Go.Operand.tmp 123) (Go.Operand.tmp 130) t123 t130) W fun t131 w =>
      (S W w ∧ True ∧ F23 t131 w)
      ) (True ∧ F23 undef W)
    )
    (o24 : ∀ t116 t131 : Value, ∀ W, S { w with drawn := w.drawn + 1 } W → F7 t116 W → F23 t131 W → 
      PickP t116 (Go.Value.bool true) t131 fun t132 =>
      (S W W ∧ True ∧ F24 t132 W)
    )
    (o26 : ∀ t133 : Value, ∀ W, S { w with drawn := w.drawn + 1 } W → F24 t133 W → 
      GuardP t133 false (
      (S W W ∧ True ∧ F26 it7 W)
      ) (True ∧ F26 undef W)
    )
    (o27 : ∀ t133 : Value, ∀ W, S { w with drawn := w.drawn + 1 } W → F24 t133 W → 
      GuardP t133 false (
      (S W W ∧ True ∧ F27 it0 W)
      ) (True ∧ F27 undef W)
    )
    (o28 : ∀ t133 : Value, ∀ W, S { w with drawn := w.drawn + 1 } W → F24 t133 W → 
      GuardP t133 false (
      (S W W ∧ True ∧ F28 it9 W)
      ) (True ∧ F28 undef W)
    )
    (o29 : ∀ t135 t136 t133 : Value, ∀ W, S { w with drawn := w.drawn + 1 } W → F27 t135 W → F28 t136 W → F24 t133 W → 
      GuardP t133 false (
      Does Try.prog (Instr.indexAt 44 t135 t136) W fun t137 w =>
      (S W w ∧ True ∧ F29 t137 w)
      ) (True ∧ F29 undef W)
    )
    (o30 : ∀ t137 t133 : Value, ∀ W, S { w with drawn := w.drawn + 1 } W → F29 t137 W → F24 t133 W → 
      GuardP t133 false (
      Does Try.prog (Instr.fieldAt 54 t137 0) W fun t138 w =>
      (S W w ∧ True ∧ F30 t138 w)
      ) (True ∧ F30 undef W)
    )
    (o31 : ∀ t138 t133 : Value, ∀ W, S { w with drawn := w.drawn + 1 } W → F30 t138 W → F24 t133 W → 
      GuardP t133 false (
      Does Try.prog (Instr.loadAt 9 t138) W fun t139 w =>
      (S W w ∧ True ∧ F31 t139 w)
      ) (True ∧ F31 undef W)
    )
    (o32 : ∀ t134 t139 t133 : Value, ∀ W, S { w with drawn := w.drawn + 1 } W → F26 t134 W → F31 t139 W → F24 t133 W → 
      GuardP t133 false (
      Call Try.prog 28 #[t134, t139] W fun t140 w =>
      (S W w ∧ True ∧ F32 t140 w)
      ) (True ∧ F32 undef W)
    )
    (o33 : ∀ t133 : Value, ∀ W, S { w with drawn := w.drawn + 1 } W → F24 t133 W → 
      GuardP t133 false (
      (S W W ∧ True ∧ F33 it8 W)
      ) (True ∧ F33 undef W)
    )
    (o34 : ∀ t133 : Value, ∀ W, S { w with drawn := w.drawn + 1 } W → F24 t133 W → 
      GuardP t133 false (
      (S W W ∧ True ∧ F34 it0 W)
      ) (True ∧ F34 undef W)
    )
    (o35 : ∀ t133 : Value, ∀ W, S { w with drawn := w.drawn + 1 } W → F24 t133 W → 
      GuardP t133 false (
      (S W W ∧ True ∧ F35 it9 W)
      ) (True ∧ F35 undef W)
    )
    (o36 : ∀ t142 t143 t133 : Value, ∀ W, S { w with drawn := w.drawn + 1 } W → F34 t142 W → F35 t143 W → F24 t133 W → 
      GuardP t133 false (
      Does Try.prog (Instr.indexAt 44 t142 t143) W fun t144 w =>
      (S W w ∧ True ∧ F36 t144 w)
      ) (True ∧ F36 undef W)
    )
    (o37 : ∀ t144 t133 : Value, ∀ W, S { w with drawn := w.drawn + 1 } W → F36 t144 W → F24 t133 W → 
      GuardP t133 false (
      Does Try.prog (Instr.fieldAt 54 t144 0) W fun t145 w =>
      (S W w ∧ True ∧ F37 t145 w)
      ) (True ∧ F37 undef W)
    )
    (o38 : ∀ t145 t133 : Value, ∀ W, S { w with drawn := w.drawn + 1 } W → F37 t145 W → F24 t133 W → 
      GuardP t133 false (
      Does Try.prog (Instr.loadAt 9 t145) W fun t146 w =>
      (S W w ∧ True ∧ F38 t146 w)
      ) (True ∧ F38 undef W)
    )
    (o39 : ∀ t141 t146 t133 : Value, ∀ W, S { w with drawn := w.drawn + 1 } W → F33 t141 W → F38 t146 W → F24 t133 W → 
      GuardP t133 false (
      Call Try.prog 29 #[t141, t146] W fun t147 w =>
      (S W w ∧ True ∧ F39 t147 w)
      ) (True ∧ F39 undef W)
    )
    (o40 : ∀ t140 t147 t133 : Value, ∀ W, S { w with drawn := w.drawn + 1 } W → F32 t140 W → F39 t147 W → F24 t133 W → 
      GuardP t133 false (
      Does Try.prog (eqE .neq 3 (Go.Operand.tmp 140) (Go.Operand.tmp 147) t140 t147) W fun t148 w =>
      (S W w ∧ True ∧ F40 t148 w)
      ) (True ∧ F40 undef W)
    )
    (o41 : ∀ t133 t148 : Value, ∀ W, S { w with drawn := w.drawn + 1 } W → F24 t133 W → F40 t148 W → 
      PickP t133 (Go.Value.bool true) t148 fun t149 =>
      (S W W ∧ True ∧ F41 t149 W)
    )
    (o43 : ∀ t150 : Value, ∀ W, S { w with drawn := w.drawn + 1 } W → F41 t150 W → 
      GuardP t150 false (
      (S W W ∧ True ∧ F43 it7 W)
      ) (True ∧ F43 undef W)
    )
    (o44 : ∀ t150 : Value, ∀ W, S { w with drawn := w.drawn + 1 } W → F41 t150 W → 
      GuardP t150 false (
      (S W W ∧ True ∧ F44 it0 W)
      ) (True ∧ F44 undef W)
    )
    (o45 : ∀ t150 : Value, ∀ W, S { w with drawn := w.drawn + 1 } W → F41 t150 W → 
      GuardP t150 false (
      (S W W ∧ True ∧ F45 it9 W)
      ) (True ∧ F45 undef W)
    )
    (o46 : ∀ t152 t153 t150 : Value, ∀ W, S { w with drawn := w.drawn + 1 } W → F44 t152 W → F45 t153 W → F41 t150 W → 
      GuardP t150 false (
      Does Try.prog (Instr.indexAt 44 t152 t153) W fun t154 w =>
      (S W w ∧ True ∧ F46 t154 w)
      ) (True ∧ F46 undef W)
    )
    (o47 : ∀ t154 t150 : Value, ∀ W, S { w with drawn := w.drawn + 1 } W → F46 t154 W → F41 t150 W → 
      GuardP t150 false (
      Does Try.prog (Instr.fieldAt 54 t154 0) W fun t155 w =>
      (S W w ∧ True ∧ F47 t155 w)
      ) (True ∧ F47 undef W)
    )
    (o48 : ∀ t155 t150 : Value, ∀ W, S { w with drawn := w.drawn + 1 } W → F47 t155 W → F41 t150 W → 
      GuardP t150 false (
      Does Try.prog (Instr.loadAt 9 t155) W fun t156 w =>
      (S W w ∧ True ∧ F48 t156 w)
      ) (True ∧ F48 undef W)
    )
    (o49 : ∀ t151 t156 t150 : Value, ∀ W, S { w with drawn := w.drawn + 1 } W → F43 t151 W → F48 t156 W → F41 t150 W → 
      GuardP t150 false (
      Call Try.prog 30 #[t151, t156] W fun t157 w =>
      (S W w ∧ True ∧ F49 t157 w)
      ) (True ∧ F49 undef W)
    )
    (o50 : ∀ t150 : Value, ∀ W, S { w with drawn := w.drawn + 1 } W → F41 t150 W → 
      GuardP t150 false (
      (S W W ∧ True ∧ F50 it8 W)
      ) (True ∧ F50 undef W)
    )
    (o51 : ∀ t150 : Value, ∀ W, S { w with drawn := w.drawn + 1 } W → F41 t150 W → 
      GuardP t150 false (
      (S W W ∧ True ∧ F51 it0 W)
      ) (True ∧ F51 undef W)
    )
    (o52 : ∀ t150 : Value, ∀ W, S { w with drawn := w.drawn + 1 } W → F41 t150 W → 
      GuardP t150 false (
      (S W W ∧ True ∧ F52 it9 W)
      ) (True ∧ F52 undef W)
    )
    (o53 : ∀ t159 t160 t150 : Value, ∀ W, S { w with drawn := w.drawn + 1 } W → F51 t159 W → F52 t160 W → F41 t150 W → 
      GuardP t150 false (
      Does Try.prog (Instr.indexAt 44 t159 t160) W fun t161 w =>
      (S W w ∧ True ∧ F53 t161 w)
      ) (True ∧ F53 undef W)
    )
    (o54 : ∀ t161 t150 : Value, ∀ W, S { w with drawn := w.drawn + 1 } W → F53 t161 W → F41 t150 W → 
      GuardP t150 false (
      Does Try.prog (Instr.fieldAt 54 t161 0) W fun t162 w =>
      (S W w ∧ True ∧ F54 t162 w)
      ) (True ∧ F54 undef W)
    )
    (o55 : ∀ t162 t150 : Value, ∀ W, S { w with drawn := w.drawn + 1 } W → F54 t162 W → F41 t150 W → 
      GuardP t150 false (
      Does Try.prog (Instr.loadAt 9 t162) W fun t163 w =>
      (S W w ∧ True ∧ F55 t163 w)
      ) (True ∧ F55 undef W)
    )
    (o56 : ∀ t158 t163 t150 : Value, ∀ W, S { w with drawn := w.drawn + 1 } W → F50 t158 W → F55 t163 W → F41 t150 W → 
      GuardP t150 false (
      Call Try.prog 31 #[t158, t163] W fun t164 w =>
      (S W w ∧ True ∧ F56 t164 w)
      ) (True ∧ F56 undef W)
    )
    (o57 : ∀ t157 t164 t150 : Value, ∀ W, S { w with drawn := w.drawn + 1 } W → F49 t157 W → F56 t164 W → F41 t150 W → 
      GuardP t150 false (
      Call Try.prog 24 #[t157, t164] W fun t165 w =>
      (S W w ∧ True ∧ F57 t165 w)
      ) (True ∧ F57 undef W)
    )
    (o58 : ∀ t165 t150 : Value, ∀ W, S { w with drawn := w.drawn + 1 } W → F57 t165 W → F41 t150 W → 
      GuardP t150 false (
      Does Try.prog (Op.unary Go.UnOp.not t165) W fun t166 w =>
      (S W w ∧ True ∧ F58 t166 w)
      ) (True ∧ F58 undef W)
    )
    (o59 : ∀ t150 t166 : Value, ∀ W, S { w with drawn := w.drawn + 1 } W → F41 t150 W → F58 t166 W → 
      PickP t150 (Go.Value.bool true) t166 fun t167 =>
      (S W W ∧ True ∧ F59 t167 W)
    )
    (fin : ∀ t167 : Value, ∀ W, S { w with drawn := w.drawn + 1 } W → F59 t167 W → J t167 W) :
    DrawP Try.prog 289 (opsOf Try.f4 13) [0, 7, 8, 9] [it0, it7, it8, it9] [167] J w := by
  have hall : ∀ _ : Nat → Value,
    (∀ k : Nat, 0 ≤ k → k ≤ 0 → ∀ W, S { w with drawn := w.drawn + 1 } W → True → 
      (S W W ∧ True ∧ it7 = it7)
    ) ∧
    (∀ t108 : Value, ∀ k : Nat, 0 ≤ k → k ≤ 0 → ∀ W, S { w with drawn := w.drawn + 1 } W → True → t108 = it7 → 
      Call Try.prog 25 #[t108] W fun t109 w =>
      (S W w ∧ True ∧ F1 t109 w)
    ) ∧
    (∀ k : Nat, 0 ≤ k → k ≤ 0 → ∀ W, S { w with drawn := w.drawn + 1 } W → True → 
      (S W W ∧ True ∧ it8 = it8)
    ) ∧
    (∀ t110 : Value, ∀ k : Nat, 0 ≤ k → k ≤ 0 → ∀ W, S { w with drawn := w.drawn + 1 } W → True → t110 = it8 → 
      NilCheckP t110 fun t111 =>
      (S W W ∧ True ∧ F3 t111 W)
    ) ∧
    (∀ t111 : Value, ∀ k : Nat, 0 ≤ k → k ≤ 0 → ∀ W, S { w with drawn := w.drawn + 1 } W → True → F3 t111 W → 
      Does Try.prog (Instr.fieldAt 52 t111 0) W fun t112 w =>
      (S W w ∧ True ∧ F4 t112 w)
    ) ∧
    (∀ t112 : Value, ∀ k : Nat, 0 ≤ k → k ≤ 0 → ∀ W, S { w with drawn := w.drawn + 1 } W → True → F4 t112 W → 
      Does Try.prog (Instr.loadAt 23 t112) W fun t113 w =>
      (S W w ∧ True ∧ F5 t113 w)
    ) ∧
    (∀ t113 : Value, ∀ k : Nat, 0 ≤ k → k ≤ 0 → ∀ W, S { w with drawn := w.drawn + 1 } W → True → F5 t113 W → 
      Does Try.prog (Builtin.len_ #[23] 3 #[t113]) W fun t114 w =>
      (S W w ∧ True ∧ F6 t114 w)
    ) ∧
    (∀ t109 t114 : Value, ∀ k : Nat, 0 ≤ k → k ≤ 0 → ∀ W, S { w with drawn := w.drawn + 1 } W → True → F1 t109 W → F6 t114 W → 
      Does Try.prog (eqE .neq 3 (Go.Operand.tmp 109) (Go.Operand.tmp 114) t109 t114) W fun t115 w =>
      (S W w ∧ True ∧ F7 t115 w)
    ) ∧
    (∀ t115 : Value, ∀ k : Nat, 0 ≤ k → k ≤ 0 → ∀ W, S { w with drawn := w.drawn + 1 } W → True → F7 t115 W → 
      (S W W ∧ True ∧ F7 t115 W)
    ) ∧
    (∀ t116 : Value, ∀ k : Nat, 0 ≤ k → k ≤ 0 → ∀ W, S { w with drawn := w.drawn + 1 } W → True → F7 t116 W → 
      GuardP t116 false (
      (S W W ∧ True ∧ F9 it7 W)
      ) (True ∧ F9 undef W)
    ) ∧
    (∀ t116 : Value, ∀ k : Nat, 0 ≤ k → k ≤ 0 → ∀ W, S { w with drawn := w.drawn + 1 } W → True → F7 t116 W → 
      GuardP t116 false (
      (S W W ∧ True ∧ F10 it0 W)
      ) (True ∧ F10 undef W)
    ) ∧
    (∀ t116 : Value, ∀ k : Nat, 0 ≤ k → k ≤ 0 → ∀ W, S { w with drawn := w.drawn + 1 } W → True → F7 t116 W → 
      GuardP t116 false (
      (S W W ∧ True ∧ F11 it9 W)
      ) (True ∧ F11 undef W)
    ) ∧
    (∀ t118 t119 t116 : Value, ∀ k : Nat, 0 ≤ k → k ≤ 0 → ∀ W, S { w with drawn := w.drawn + 1 } W → True → F10 t118 W → F11 t119 W → F7 t116 W → 
      GuardP t116 false (
      Does Try.prog (Instr.indexAt 44 t118 t119) W fun t120 w =>
      (S W w ∧ True ∧ F12 t120 w)
      ) (True ∧ F12 undef W)
    ) ∧
    (∀ t120 t116 : Value, ∀ k : Nat, 0 ≤ k → k ≤ 0 → ∀ W, S { w with drawn := w.drawn + 1 } W → True → F12 t120 W → F7 t116 W → 
      GuardP t116 false (
      Does Try.prog (Instr.fieldAt 54 t120 0) W fun t121 w =>
      (S W w ∧ True ∧ F13 t121 w)
      ) (True ∧ F13 undef W)
    ) ∧
    (∀ t121 t116 : Value, ∀ k : Nat, 0 ≤ k → k ≤ 0 → ∀ W, S { w with drawn := w.drawn + 1 } W → True → F13 t121 W → F7 t116 W → 
      GuardP t116 false (
      Does Try.prog (Instr.loadAt 9 t121) W fun t122 w =>
      (S W w ∧ True ∧ F14 t122 w)
      ) (True ∧ F14 undef W)
    ) ∧
    (∀ t117 t122 t116 : Value, ∀ k : Nat, 0 ≤ k → k ≤ 0 → ∀ W, S { w with drawn := w.drawn + 1 } W → True → F9 t117 W → F14 t122 W → F7 t116 W → 
      GuardP t116 false (
      Call Try.prog 26 #[t117, t122] W fun t123 w =>
      (S W w ∧ True ∧ F15 t123 w)
      ) (True ∧ F15 undef W)
    ) ∧
    (∀ t116 : Value, ∀ k : Nat, 0 ≤ k → k ≤ 0 → ∀ W, S { w with drawn := w.drawn + 1 } W → True → F7 t116 W → 
      GuardP t116 false (
      (S W W ∧ True ∧ F16 it8 W)
      ) (True ∧ F16 undef W)
    ) ∧
    (∀ t116 : Value, ∀ k : Nat, 0 ≤ k → k ≤ 0 → ∀ W, S { w with drawn := w.drawn + 1 } W → True → F7 t116 W → 
      GuardP t116 false (
      (S W W ∧ True ∧ F17 it0 W)
      ) (True ∧ F17 undef W)
    ) ∧
    (∀ t116 : Value, ∀ k : Nat, 0 ≤ k → k ≤ 0 → ∀ W, S { w with drawn := w.drawn + 1 } W → True → F7 t116 W → 
      GuardP t116 false (
      (S W W ∧ True ∧ F18 it9 W)
      ) (True ∧ F18 undef W)
    ) ∧
    (∀ t125 t126 t116 : Value, ∀ k : Nat, 0 ≤ k → k ≤ 0 → ∀ W, S { w with drawn := w.drawn + 1 } W → True → F17 t125 W → F18 t126 W → F7 t116 W → 
      GuardP t116 false (
      Does Try.prog (Instr.indexAt 44 t125 t126) W fun t127 w =>
      (S W w ∧ True ∧ F19 t127 w)
      ) (True ∧ F19 undef W)
    ) ∧
    (∀ t127 t116 : Value, ∀ k : Nat, 0 ≤ k → k ≤ 0 → ∀ W, S { w with drawn := w.drawn + 1 } W → True → F19 t127 W → F7 t116 W → 
      GuardP t116 false (
      Does Try.prog (Instr.fieldAt 54 t127 0) W fun t128 w =>
      (S W w ∧ True ∧ F20 t128 w)
      ) (True ∧ F20 undef W)
    ) ∧
    (∀ t128 t116 : Value, ∀ k : Nat, 0 ≤ k → k ≤ 0 → ∀ W, S { w with drawn := w.drawn + 1 } W → True → F20 t128 W → F7 t116 W → 
      GuardP t116 false (
      Does Try.prog (Instr.loadAt 9 t128) W fun t129 w =>
      (S W w ∧ True ∧ F21 t129 w)
      ) (True ∧ F21 undef W)
    ) ∧
    (∀ t124 t129 t116 : Value, ∀ k : Nat, 0 ≤ k → k ≤ 0 → ∀ W, S { w with drawn := w.drawn + 1 } W → True → F16 t124 W → F21 t129 W → F7 t116 W → 
      GuardP t116 false (
      Call Try.prog 27 #[t124, t129] W fun t130 w =>
      (S W w ∧ True ∧ F22 t130 w)
      ) (True ∧ F22 undef W)
    ) ∧
    (∀ t123 t130 t116 : Value, ∀ k : Nat, 0 ≤ k → k ≤ 0 → ∀ W, S { w with drawn := w.drawn + 1 } W → True → F15 t123 W → F22 t130 W → F7 t116 W → 
      GuardP t116 false (
      Does Try.prog (eqE .neq 4 (Go.Operand.tmp 123) (Go.Operand.tmp 130) t123 t130) W fun t131 w =>
      (S W w ∧ True ∧ F23 t131 w)
      ) (True ∧ F23 undef W)
    ) ∧
    (∀ t116 t131 : Value, ∀ k : Nat, 0 ≤ k → k ≤ 0 → ∀ W, S { w with drawn := w.drawn + 1 } W → True → F7 t116 W → F23 t131 W → 
      PickP t116 (Go.Value.bool true) t131 fun t132 =>
      (S W W ∧ True ∧ F24 t132 W)
    ) ∧
    (∀ t132 : Value, ∀ k : Nat, 0 ≤ k → k ≤ 0 → ∀ W, S { w with drawn := w.drawn + 1 } W → True → F24 t132 W → 
      (S W W ∧ True ∧ F24 t132 W)
    ) ∧
    (∀ t133 : Value, ∀ k : Nat, 0 ≤ k → k ≤ 0 → ∀ W, S { w with drawn := w.drawn + 1 } W → True → F24 t133 W → 
      GuardP t133 false (
      (S W W ∧ True ∧ F26 it7 W)
      ) (True ∧ F26 undef W)
    ) ∧
    (∀ t133 : Value, ∀ k : Nat, 0 ≤ k → k ≤ 0 → ∀ W, S { w with drawn := w.drawn + 1 } W → True → F24 t133 W → 
      GuardP t133 false (
      (S W W ∧ True ∧ F27 it0 W)
      ) (True ∧ F27 undef W)
    ) ∧
    (∀ t133 : Value, ∀ k : Nat, 0 ≤ k → k ≤ 0 → ∀ W, S { w with drawn := w.drawn + 1 } W → True → F24 t133 W → 
      GuardP t133 false (
      (S W W ∧ True ∧ F28 it9 W)
      ) (True ∧ F28 undef W)
    ) ∧
    (∀ t135 t136 t133 : Value, ∀ k : Nat, 0 ≤ k → k ≤ 0 → ∀ W, S { w with drawn := w.drawn + 1 } W → True → F27 t135 W → F28 t136 W → F24 t133 W → 
      GuardP t133 false (
      Does Try.prog (Instr.indexAt 44 t135 t136) W fun t137 w =>
      (S W w ∧ True ∧ F29 t137 w)
      ) (True ∧ F29 undef W)
    ) ∧
    (∀ t137 t133 : Value, ∀ k : Nat, 0 ≤ k → k ≤ 0 → ∀ W, S { w with drawn := w.drawn + 1 } W → True → F29 t137 W → F24 t133 W → 
      GuardP t133 false (
      Does Try.prog (Instr.fieldAt 54 t137 0) W fun t138 w =>
      (S W w ∧ True ∧ F30 t138 w)
      ) (True ∧ F30 undef W)
    ) ∧
    (∀ t138 t133 : Value, ∀ k : Nat, 0 ≤ k → k ≤ 0 → ∀ W, S { w with drawn := w.drawn + 1 } W → True → F30 t138 W → F24 t133 W → 
      GuardP t133 false (
      Does Try.prog (Instr.loadAt 9 t138) W fun t139 w =>
      (S W w ∧ True ∧ F31 t139 w)
      ) (True ∧ F31 undef W)
    ) ∧
    (∀ t134 t139 t133 : Value, ∀ k : Nat, 0 ≤ k → k ≤ 0 → ∀ W, S { w with drawn := w.drawn + 1 } W → True → F26 t134 W → F31 t139 W → F24 t133 W → 
      GuardP t133 false (
      Call Try.prog 28 #[t134, t139] W fun t140 w =>
      (S W w ∧ True ∧ F32 t140 w)
      ) (True ∧ F32 undef W)
    ) ∧
    (∀ t133 : Value, ∀ k : Nat, 0 ≤ k → k ≤ 0 → ∀ W, S { w with drawn := w.drawn + 1 } W → True → F24 t133 W → 
      GuardP t133 false (
      (S W W ∧ True ∧ F33 it8 W)
      ) (True ∧ F33 undef W)
    ) ∧
    (∀ t133 : Value, ∀ k : Nat, 0 ≤ k → k ≤ 0 → ∀ W, S { w with drawn := w.drawn + 1 } W → True → F24 t133 W → 
      GuardP t133 false (
      (S W W ∧ True ∧ F34 it0 W)
      ) (True ∧ F34 undef W)
    ) ∧
    (∀ t133 : Value, ∀ k : Nat, 0 ≤ k → k ≤ 0 → ∀ W, S { w with drawn := w.drawn + 1 } W → True → F24 t133 W → 
      GuardP t133 false (
      (S W W ∧ True ∧ F35 it9 W)
      ) (True ∧ F35 undef W)
    ) ∧
    (∀ t142 t143 t133 : Value, ∀ k : Nat, 0 ≤ k → k ≤ 0 → ∀ W, S { w with drawn := w.drawn + 1 } W → True → F34 t142 W → F35 t143 W → F24 t133 W → 
      GuardP t133 false (
      Does Try.prog (Instr.indexAt 44 t142 t143) W fun t144 w =>
      (S W w ∧ True ∧ F36 t144 w)
      ) (True ∧ F36 undef W)
    ) ∧
    (∀ t144 t133 : Value, ∀ k : Nat, 0 ≤ k → k ≤ 0 → ∀ W, S { w with drawn := w.drawn + 1 } W → True → F36 t144 W → F24 t133 W → 
      GuardP t133 false (
      Does Try.prog (Instr.fieldAt 54 t144 0) W fun t145 w =>
      (S W w ∧ True ∧ F37 t145 w)
      ) (True ∧ F37 undef W)
    ) ∧
    (∀ t145 t133 : Value, ∀ k : Nat, 0 ≤ k → k ≤ 0 → ∀ W, S { w with drawn := w.drawn + 1 } W → True → F37 t145 W → F24 t133 W → 
      GuardP t133 false (
      Does Try.prog (Instr.loadAt 9 t145) W fun t146 w =>
      (S W w ∧ True ∧ F38 t146 w)
      ) (True ∧ F38 undef W)
    ) ∧
    (∀ t141 t146 t133 : Value, ∀ k : Nat, 0 ≤ k → k ≤ 0 → ∀ W, S { w with drawn := w.drawn + 1 } W → True → F33 t141 W → F38 t146 W → F24 t133 W → 
      GuardP t133 false (
      Call Try.prog 29 #[t141, t146] W fun t147 w =>
      (S W w ∧ True ∧ F39 t147 w)
      ) (True ∧ F39 undef W)
    ) ∧
    (∀ t140 t147 t133 : Value, ∀ k : Nat, 0 ≤ k → k ≤ 0 → ∀ W, S { w with drawn := w.drawn + 1 } W → True → F32 t140 W → F39 t147 W → F24 t133 W → 
      GuardP t133 false (
      Does Try.prog (eqE .neq 3 (Go.Operand.tmp 140) (Go.Operand.tmp 147) t140 t147) W fun t148 w =>
      (S W w ∧ True ∧ F40 t148 w)
      ) (True ∧ F40 undef W)
    ) ∧
    (∀ t133 t148 : Value, ∀ k : Nat, 0 ≤ k → k ≤ 0 → ∀ W, S { w with drawn := w.drawn + 1 } W → True → F24 t133 W → F40 t148 W → 
      PickP t133 (Go.Value.bool true) t148 fun t149 =>
      (S W W ∧ True ∧ F41 t149 W)
    ) ∧
    (∀ t149 : Value, ∀ k : Nat, 0 ≤ k → k ≤ 0 → ∀ W, S { w with drawn := w.drawn + 1 } W → True → F41 t149 W → 
      (S W W ∧ True ∧ F41 t149 W)
    ) ∧
    (∀ t150 : Value, ∀ k : Nat, 0 ≤ k → k ≤ 0 → ∀ W, S { w with drawn := w.drawn + 1 } W → True → F41 t150 W → 
      GuardP t150 false (
      (S W W ∧ True ∧ F43 it7 W)
      ) (True ∧ F43 undef W)
    ) ∧
    (∀ t150 : Value, ∀ k : Nat, 0 ≤ k → k ≤ 0 → ∀ W, S { w with drawn := w.drawn + 1 } W → True → F41 t150 W → 
      GuardP t150 false (
      (S W W ∧ True ∧ F44 it0 W)
      ) (True ∧ F44 undef W)
    ) ∧
    (∀ t150 : Value, ∀ k : Nat, 0 ≤ k → k ≤ 0 → ∀ W, S { w with drawn := w.drawn + 1 } W → True → F41 t150 W → 
      GuardP t150 false (
      (S W W ∧ True ∧ F45 it9 W)
      ) (True ∧ F45 undef W)
    ) ∧
    (∀ t152 t153 t150 : Value, ∀ k : Nat, 0 ≤ k → k ≤ 0 → ∀ W, S { w with drawn := w.drawn + 1 } W → True → F44 t152 W → F45 t153 W → F41 t150 W → 
      GuardP t150 false (
      Does Try.prog (Instr.indexAt 44 t152 t153) W fun t154 w =>
      (S W w ∧ True ∧ F46 t154 w)
      ) (True ∧ F46 undef W)
    ) ∧
    (∀ t154 t150 : Value, ∀ k : Nat, 0 ≤ k → k ≤ 0 → ∀ W, S { w with drawn := w.drawn + 1 } W → True → F46 t154 W → F41 t150 W → 
      GuardP t150 false (
      Does Try.prog (Instr.fieldAt 54 t154 0) W fun t155 w =>
      (S W w ∧ True ∧ F47 t155 w)
      ) (True ∧ F47 undef W)
    ) ∧
    (∀ t155 t150 : Value, ∀ k : Nat, 0 ≤ k → k ≤ 0 → ∀ W, S { w with drawn := w.drawn + 1 } W → True → F47 t155 W → F41 t150 W → 
      GuardP t150 false (
      Does Try.prog (Instr.loadAt 9 t155) W fun t156 w =>
      (S W w ∧ True ∧ F48 t156 w)
      ) (True ∧ F48 undef W)
    ) ∧
    (∀ t151 t156 t150 : Value, ∀ k : Nat, 0 ≤ k → k ≤ 0 → ∀ W, S { w with drawn := w.drawn + 1 } W → True → F43 t151 W → F48 t156 W → F41 t150 W → 
      GuardP t150 false (
      Call Try.prog 30 #[t151, t156] W fun t157 w =>
      (S W w ∧ True ∧ F49 t157 w)
      ) (True ∧ F49 undef W)
    ) ∧
    (∀ t150 : Value, ∀ k : Nat, 0 ≤ k → k ≤ 0 → ∀ W, S { w with drawn := w.drawn + 1 } W → True → F41 t150 W → 
      GuardP t150 false (
      (S W W ∧ True ∧ F50 it8 W)
      ) (True ∧ F50 undef W)
    ) ∧
    (∀ t150 : Value, ∀ k : Nat, 0 ≤ k → k ≤ 0 → ∀ W, S { w with drawn := w.drawn + 1 } W → True → F41 t150 W → 
      GuardP t150 false (
      (S W W ∧ True ∧ F51 it0 W)
      ) (True ∧ F51 undef W)
    ) ∧
    (∀ t150 : Value, ∀ k : Nat, 0 ≤ k → k ≤ 0 → ∀ W, S { w with drawn := w.drawn + 1 } W → True → F41 t150 W → 
      GuardP t150 false (
      (S W W ∧ True ∧ F52 it9 W)
      ) (True ∧ F52 undef W)
    ) ∧
    (∀ t159 t160 t150 : Value, ∀ k : Nat, 0 ≤ k → k ≤ 0 → ∀ W, S { w with drawn := w.drawn + 1 } W → True → F51 t159 W → F52 t160 W → F41 t150 W → 
      GuardP t150 false (
      Does Try.prog (Instr.indexAt 44 t159 t160) W fun t161 w =>
      (S W w ∧ True ∧ F53 t161 w)
      ) (True ∧ F53 undef W)
    ) ∧
    (∀ t161 t150 : Value, ∀ k : Nat, 0 ≤ k → k ≤ 0 → ∀ W, S { w with drawn := w.drawn + 1 } W → True → F53 t161 W → F41 t150 W → 
      GuardP t150 false (
      Does Try.prog (Instr.fieldAt 54 t161 0) W fun t162 w =>
      (S W w ∧ True ∧ F54 t162 w)
      ) (True ∧ F54 undef W)
    ) ∧
    (∀ t162 t150 : Value, ∀ k : Nat, 0 ≤ k → k ≤ 0 → ∀ W, S { w with drawn := w.drawn + 1 } W → True → F54 t162 W → F41 t150 W → 
      GuardP t150 false (
      Does Try.prog (Instr.loadAt 9 t162) W fun t163 w =>
      (S W w ∧ True ∧ F55 t163 w)
      ) (True ∧ F55 undef W)
    ) ∧
    (∀ t158 t163 t150 : Value, ∀ k : Nat, 0 ≤ k → k ≤ 0 → ∀ W, S { w with drawn := w.drawn + 1 } W → True → F50 t158 W → F55 t163 W → F41 t150 W → 
      GuardP t150 false (
      Call Try.prog 31 #[t158, t163] W fun t164 w =>
      (S W w ∧ True ∧ F56 t164 w)
      ) (True ∧ F56 undef W)
    ) ∧
    (∀ t157 t164 t150 : Value, ∀ k : Nat, 0 ≤ k → k ≤ 0 → ∀ W, S { w with drawn := w.drawn + 1 } W → True → F49 t157 W → F56 t164 W → F41 t150 W → 
      GuardP t150 false (
      Call Try.prog 24 #[t157, t164] W fun t165 w =>
      (S W w ∧ True ∧ F57 t165 w)
      ) (True ∧ F57 undef W)
    ) ∧
    (∀ t165 t150 : Value, ∀ k : Nat, 0 ≤ k → k ≤ 0 → ∀ W, S { w with drawn := w.drawn + 1 } W → True → F57 t165 W → F41 t150 W → 
      GuardP t150 false (
      Does Try.prog (Op.unary Go.UnOp.not t165) W fun t166 w =>
      (S W w ∧ True ∧ F58 t166 w)
      ) (True ∧ F58 undef W)
    ) ∧
    (∀ t150 t166 : Value, ∀ k : Nat, 0 ≤ k → k ≤ 0 → ∀ W, S { w with drawn := w.drawn + 1 } W → True → F41 t150 W → F58 t166 W → 
      PickP t150 (Go.Value.bool true) t166 fun t167 =>
      (S W W ∧ True ∧ F59 t167 W)
    ) ∧ True := fun _ => ⟨
    fun  k hk1 hk2 W hS hC  => ⟨hr W, hC, by first | rfl | simp_all⟩,
    fun t108 k hk1 hk2 W hS hC ht108 => (by obtain rfl : k = 0 := (by omega); subst ht108; exact o1  W hS ),
    fun  k hk1 hk2 W hS hC  => ⟨hr W, hC, by first | rfl | simp_all⟩,
    fun t110 k hk1 hk2 W hS hC ht110 => (by obtain rfl : k = 0 := (by omega); subst ht110; exact o3  W hS ),
    fun t111 k hk1 hk2 W hS hC ht111 => (by obtain rfl : k = 0 := (by omega); exact o4 t111 W hS ht111),
    fun t112 k hk1 hk2 W hS hC ht112 => (by obtain rfl : k = 0 := (by omega); exact o5 t112 W hS ht112),
    fun t113 k hk1 hk2 W hS hC ht113 => (by obtain rfl : k = 0 := (by omega); exact o6 t113 W hS ht113),
    fun t109 t114 k hk1 hk2 W hS hC ht109 ht114 => (by obtain rfl : k = 0 := (by omega); exact o7 t109 t114 W hS ht109 ht114),
    fun t115 k hk1 hk2 W hS hC ht115 => ⟨hr W, hC, ht115⟩,
    fun t116 k hk1 hk2 W hS hC ht116 => (by obtain rfl : k = 0 := (by omega); exact o9 t116 W hS ht116),
    fun t116 k hk1 hk2 W hS hC ht116 => (by obtain rfl : k = 0 := (by omega); exact o10 t116 W hS ht116),
    fun t116 k hk1 hk2 W hS hC ht116 => (by obtain rfl : k = 0 := (by omega); exact o11 t116 W hS ht116),
    fun t118 t119 t116 k hk1 hk2 W hS hC ht118 ht119 ht116 => (by obtain rfl : k = 0 := (by omega); exact o12 t118 t119 t116 W hS ht118 ht119 ht116),
    fun t120 t116 k hk1 hk2 W hS hC ht120 ht116 => (by obtain rfl : k = 0 := (by omega); exact o13 t120 t116 W hS ht120 ht116),
    fun t121 t116 k hk1 hk2 W hS hC ht121 ht116 => (by obtain rfl : k = 0 := (by omega); exact o14 t121 t116 W hS ht121 ht116),
    fun t117 t122 t116 k hk1 hk2 W hS hC ht117 ht122 ht116 => (by obtain rfl : k = 0 := (by omega); exact o15 t117 t122 t116 W hS ht117 ht122 ht116),
    fun t116 k hk1 hk2 W hS hC ht116 => (by obtain rfl : k = 0 := (by omega); exact o16 t116 W hS ht116),
    fun t116 k hk1 hk2 W hS hC ht116 => (by obtain rfl : k = 0 := (by omega); exact o17 t116 W hS ht116),
    fun t116 k hk1 hk2 W hS hC ht116 => (by obtain rfl : k = 0 := (by omega); exact o18 t116 W hS ht116),
    fun t125 t126 t116 k hk1 hk2 W hS hC ht125 ht126 ht116 => (by obtain rfl : k = 0 := (by omega); exact o19 t125 t126 t116 W hS ht125 ht126 ht116),
    fun t127 t116 k hk1 hk2 W hS hC ht127 ht116 => (by obtain rfl : k = 0 := (by omega); exact o20 t127 t116 W hS ht127 ht116),
    fun t128 t116 k hk1 hk2 W hS hC ht128 ht116 => (by obtain rfl : k = 0 := (by omega); exact o21 t128 t116 W hS ht128 ht116),
    fun t124 t129 t116 k hk1 hk2 W hS hC ht124 ht129 ht116 => (by obtain rfl : k = 0 := (by omega); exact o22 t124 t129 t116 W hS ht124 ht129 ht116),
    fun t123 t130 t116 k hk1 hk2 W hS hC ht123 ht130 ht116 => (by obtain rfl : k = 0 := (by omega); exact o23 t123 t130 t116 W hS ht123 ht130 ht116),
    fun t116 t131 k hk1 hk2 W hS hC ht116 ht131 => (by obtain rfl : k = 0 := (by omega); exact o24 t116 t131 W hS ht116 ht131),
    fun t132 k hk1 hk2 W hS hC ht132 => ⟨hr W, hC, ht132⟩,
    fun t133 k hk1 hk2 W hS hC ht133 => (by obtain rfl : k = 0 := (by omega); exact o26 t133 W hS ht133),
    fun t133 k hk1 hk2 W hS hC ht133 => (by obtain rfl : k = 0 := (by omega); exact o27 t133 W hS ht133),
    fun t133 k hk1 hk2 W hS hC ht133 => (by obtain rfl : k = 0 := (by omega); exact o28 t133 W hS ht133),
    fun t135 t136 t133 k hk1 hk2 W hS hC ht135 ht136 ht133 => (by obtain rfl : k = 0 := (by omega); exact o29 t135 t136 t133 W hS ht135 ht136 ht133),
    fun t137 t133 k hk1 hk2 W hS hC ht137 ht133 => (by obtain rfl : k = 0 := (by omega); exact o30 t137 t133 W hS ht137 ht133),
    fun t138 t133 k hk1 hk2 W hS hC ht138 ht133 => (by obtain rfl : k = 0 := (by omega); exact o31 t138 t133 W hS ht138 ht133),
    fun t134 t139 t133 k hk1 hk2 W hS hC ht134 ht139 ht133 => (by obtain rfl : k = 0 := (by omega); exact o32 t134 t139 t133 W hS ht134 ht139 ht133),
    fun t133 k hk1 hk2 W hS hC ht133 => (by obtain rfl : k = 0 := (by omega); exact o33 t133 W hS ht133),
    fun t133 k hk1 hk2 W hS hC ht133 => (by obtain rfl : k = 0 := (by omega); exact o34 t133 W hS ht133),
    fun t133 k hk1 hk2 W hS hC ht133 => (by obtain rfl : k = 0 := (by omega); exact o35 t133 W hS ht133),
    fun t142 t143 t133 k hk1 hk2 W hS hC ht142 ht143 ht133 => (by obtain rfl : k = 0 := (by omega); exact o36 t142 t143 t133 W hS ht142 ht143 ht133),
    fun t144 t133 k hk1 hk2 W hS hC ht144 ht133 => (by obtain rfl : k = 0 := (by omega); exact o37 t144 t133 W hS ht144 ht133),
    fun t145 t133 k hk1 hk2 W hS hC ht145 ht133 => (by obtain rfl : k = 0 := (by omega); exact o38 t145 t133 W hS ht145 ht133),
    fun t141 t146 t133 k hk1 hk2 W hS hC ht141 ht146 ht133 => (by obtain rfl : k = 0 := (by omega); exact o39 t141 t146 t133 W hS ht141 ht146 ht133),
    fun t140 t147 t133 k hk1 hk2 W hS hC ht140 ht147 ht133 => (by obtain rfl : k = 0 := (by omega); exact o40 t140 t147 t133 W hS ht140 ht147 ht133),
    fun t133 t148 k hk1 hk2 W hS hC ht133 ht148 => (by obtain rfl : k = 0 := (by omega); exact o41 t133 t148 W hS ht133 ht148),
    fun t149 k hk1 hk2 W hS hC ht149 => ⟨hr W, hC, ht149⟩,
    fun t150 k hk1 hk2 W hS hC ht150 => (by obtain rfl : k = 0 := (by omega); exact o43 t150 W hS ht150),
    fun t150 k hk1 hk2 W hS hC ht150 => (by obtain rfl : k = 0 := (by omega); exact o44 t150 W hS ht150),
    fun t150 k hk1 hk2 W hS hC ht150 => (by obtain rfl : k = 0 := (by omega); exact o45 t150 W hS ht150),
    fun t152 t153 t150 k hk1 hk2 W hS hC ht152 ht153 ht150 => (by obtain rfl : k = 0 := (by omega); exact o46 t152 t153 t150 W hS ht152 ht153 ht150),
    fun t154 t150 k hk1 hk2 W hS hC ht154 ht150 => (by obtain rfl : k = 0 := (by omega); exact o47 t154 t150 W hS ht154 ht150),
    fun t155 t150 k hk1 hk2 W hS hC ht155 ht150 => (by obtain rfl : k = 0 := (by omega); exact o48 t155 t150 W hS ht155 ht150),
    fun t151 t156 t150 k hk1 hk2 W hS hC ht151 ht156 ht150 => (by obtain rfl : k = 0 := (by omega); exact o49 t151 t156 t150 W hS ht151 ht156 ht150),
    fun t150 k hk1 hk2 W hS hC ht150 => (by obtain rfl : k = 0 := (by omega); exact o50 t150 W hS ht150),
    fun t150 k hk1 hk2 W hS hC ht150 => (by obtain rfl : k = 0 := (by omega); exact o51 t150 W hS ht150),
    fun t150 k hk1 hk2 W hS hC ht150 => (by obtain rfl : k = 0 := (by omega); exact o52 t150 W hS ht150),
    fun t159 t160 t150 k hk1 hk2 W hS hC ht159 ht160 ht150 => (by obtain rfl : k = 0 := (by omega); exact o53 t159 t160 t150 W hS ht159 ht160 ht150),
    fun t161 t150 k hk1 hk2 W hS hC ht161 ht150 => (by obtain rfl : k = 0 := (by omega); exact o54 t161 t150 W hS ht161 ht150),
    fun t162 t150 k hk1 hk2 W hS hC ht162 ht150 => (by obtain rfl : k = 0 := (by omega); exact o55 t162 t150 W hS ht162 ht150),
    fun t158 t163 t150 k hk1 hk2 W hS hC ht158 ht163 ht150 => (by obtain rfl : k = 0 := (by omega); exact o56 t158 t163 t150 W hS ht158 ht163 ht150),
    fun t157 t164 t150 k hk1 hk2 W hS hC ht157 ht164 ht150 => (by obtain rfl : k = 0 := (by omega); exact o57 t157 t164 t150 W hS ht157 ht164 ht150),
    fun t165 t150 k hk1 hk2 W hS hC ht165 ht150 => (by obtain rfl : k = 0 := (by omega); exact o58 t165 t150 W hS ht165 ht150),
    fun t150 t166 k hk1 hk2 W hS hC ht150 ht166 => (by obtain rfl : k = 0 := (by omega); exact o59 t150 t166 W hS ht150 ht166),
    trivial⟩
  have hst := lkF_st (S := S) (l := [(0, fun v _ => v = it7), (1, F1), (2, fun v _ => v = it8), (3, F3), (4, F4), (5, F5), (6, F6), (7, F7), (8, F7), (9, F9), (10, F10), (11, F11), (12, F12), (13, F13), (14, F14), (15, F15), (16, F16), (17, F17), (18, F18), (19, F19), (20, F20), (21, F21), (22, F22), (23, F23), (24, F24), (25, F24), (26, F26), (27, F27), (28, F28), (29, F29), (30, F30), (31, F31), (32, F32), (33, F33), (34, F34), (35, F35), (36, F36), (37, F37), (38, F38), (39, F39), (40, F40), (41, F41), (42, F41), (43, F43), (44, F44), (45, F45), (46, F46), (47, F47), (48, F48), (49, F49), (50, F50), (51, F51), (52, F52), (53, F53), (54, F54), (55, F55), (56, F56), (57, F57), (58, F58), (59, F59)]) (fun p hp => by
    simp only [List.mem_cons, List.not_mem_nil, or_false] at hp
    rcases hp with rfl | rfl | rfl | rfl | rfl | rfl | rfl | rfl | rfl | rfl | rfl | rfl | rfl | rfl | rfl | rfl | rfl | rfl | rfl | rfl | rfl | rfl | rfl | rfl | rfl | rfl | rfl | rfl | rfl | rfl | rfl | rfl | rfl | rfl | rfl | rfl | rfl | rfl | rfl | rfl | rfl | rfl | rfl | rfl | rfl | rfl | rfl | rfl | rfl | rfl | rfl | rfl | rfl | rfl | rfl | rfl | rfl | rfl | rfl | rfl
    · exact FSt.const _
    · exact s1
    · exact FSt.const _
    · exact s3
    · exact s4
    · exact s5
    · exact s6
    · exact s7
    · exact s7
    · exact s9
    · exact s10
    · exact s11
    · exact s12
    · exact s13
    · exact s14
    · exact s15
    · exact s16
    · exact s17
    · exact s18
    · exact s19
    · exact s20
    · exact s21
    · exact s22
    · exact s23
    · exact s24
    · exact s24
    · exact s26
    · exact s27
    · exact s28
    · exact s29
    · exact s30
    · exact s31
    · exact s32
    · exact s33
    · exact s34
    · exact s35
    · exact s36
    · exact s37
    · exact s38
    · exact s39
    · exact s40
    · exact s41
    · exact s41
    · exact s43
    · exact s44
    · exact s45
    · exact s46
    · exact s47
    · exact s48
    · exact s49
    · exact s50
    · exact s51
    · exact s52
    · exact s53
    · exact s54
    · exact s55
    · exact s56
    · exact s57
    · exact s58
    · exact s59
    )
  have hf : ∀ t167 : Value, ∀ W, S { w with drawn := w.drawn + 1 } W → True → F59 t167 W → J t167 W := fun t167 W hS hC ht167 => (by exact fin t167 W hS ht167)
  exact draw_phi (T := []) S S (fun _ _ => True) (lkF [(0, fun v _ => v = it7), (1, F1), (2, fun v _ => v = it8), (3, F3), (4, F4), (5, F5), (6, F6), (7, F7), (8, F7), (9, F9), (10, F10), (11, F11), (12, F12), (13, F13), (14, F14), (15, F15), (16, F16), (17, F17), (18, F18), (19, F19), (20, F20), (21, F21), (22, F22), (23, F23), (24, F24), (25, F24), (26, F26), (27, F27), (28, F28), (29, F29), (30, F30), (31, F31), (32, F32), (33, F33), (34, F34), (35, F35), (36, F36), (37, F37), (38, F38), (39, F39), (40, F40), (41, F41), (42, F41), (43, F43), (44, F44), (45, F45), (46, F46), (47, F47), (48, F48), (49, F49), (50, F50), (51, F51), (52, F52), (53, F53), (54, F54), (55, F55), (56, F56), (57, F57), (58, F58), (59, F59)]) (by kernel_rfl) hr ht (fun _ _ h => h) hst trivial (Eq.mp (by kernel_rfl) hall) (Eq.mp (by kernel_rfl) hf)

theorem q4_26 {io1 iA2 it7 it8 : Value} {w : World} {J : VF 1} (C : World → Prop) (hC : C { w with drawn := w.drawn + 1 })
    (h : ∀ _ : Nat → Value,
    QCall Try.prog C 18 #[] w fun t268 w =>
    JoinP 1 (fun j1 => GuardP t268 true (
      Quiet Try.prog C (Builtin.len_ #[23] 3 #[io1]) w fun t271 w =>
      Quiet Try.prog C (eqE .eql 3 (Go.Operand.tmp 271) (Go.Operand.const (Go.Value.int Go.IntKind.i64 0)) t271 (Go.Value.int Go.IntKind.i64 0)) w fun t272 w =>
      j1 t272 w
    ) (j1 undef w))
    (fun t273 w => ∀ _ : Nat → Value,
    JoinP 1 (fun j2 => GuardP t273 false (
      Quiet Try.prog C (Instr.indexAt 23 io1 (Go.Value.int Go.IntKind.i64 0)) w fun t276 w =>
      Quiet Try.prog C (Instr.loadAt 9 t276) w fun t277 w =>
      QCall Try.prog C 40 #[it7, t277, iA2] w fun t279 w =>
      Quiet Try.prog C (Instr.indexAt 23 io1 (Go.Value.int Go.IntKind.i64 0)) w fun t282 w =>
      Quiet Try.prog C (Instr.loadAt 9 t282) w fun t283 w =>
      QCall Try.prog C 41 #[it8, t283, iA2] w fun t285 w =>
      Quiet Try.prog C (eqE .eql 4 (Go.Operand.tmp 279) (Go.Operand.tmp 285) t279 t285) w fun t286 w =>
      j2 t286 w
    ) (j2 undef w))
    (fun t286 w => ∀ _ : Nat → Value,
    JoinP 1 (fun j3 => GuardP t268 true (
      PickP t273 (Go.Value.bool true) t286 fun t287 =>
      j3 t287 w
    ) (j3 undef w))
    (fun t287 w => ∀ _ : Nat → Value,
    PickP t268 t287 (Go.Value.bool false) fun t288 =>
    ∀ W, C W → J t288 W
    )
    )
    )
    ) : DrawP Try.prog 289 (opsOf Try.f4 26) [1, 2, 7, 8] [io1, iA2, it7, it8] [6] J w :=
  draw_quiet C (by kernel_rfl) hC (Eq.mp (by kernel_rfl) h)

end Go.Proofs.Ytcncgkkilgmphaa
