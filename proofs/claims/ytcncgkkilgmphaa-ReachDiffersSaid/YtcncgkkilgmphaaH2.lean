import Derived.Test.YtcncgkkilgmphaaDs
set_option linter.unusedVariables false
set_option maxRecDepth 100000
namespace Go.Proofs.Ytcncgkkilgmphaa
open Go
theorem q93_1 {ix0 in1 : Value} {w : World} {J : VF 1} (C : World → Prop) (hC : C { w with drawn := w.drawn + 1 })
    (h : ∀ _ : Nat → Value,
    Quiet Try.prog C (binOp .shr 120 ix0 in1) w fun t7 w =>
    Quiet Try.prog C (binOp .sub 3 (Go.Value.int Go.IntKind.i64 32) in1) w fun t10 w =>
    Quiet Try.prog C (binOp .shl 120 ix0 t10) w fun t11 w =>
    Quiet Try.prog C (binOp .or 120 t7 t11) w fun t12 w =>
    ∀ W, C W → J t12 W
    ) : DrawP Try.prog 13 (opsOf Try.f93 1) [0, 1] [ix0, in1] [4] J w :=
  draw_quiet C (by kernel_rfl) hC (Eq.mp (by kernel_rfl) h)

theorem q72_23 {it8 it12 : Value} {w : World} {J : VF 1} (C : World → Prop) (hC : C { w with drawn := w.drawn + 1 })
    (h : ∀ _ : Nat → Value,
    Quiet Try.prog C (binOp .sub 3 it12 (Go.Value.int Go.IntKind.i64 15)) w fun t107 w =>
    Quiet Try.prog C (Instr.indexAt 118 it8 t107) w fun t108 w =>
    Quiet Try.prog C (Instr.loadAt 120 t108) w fun t109 w =>
    QCall Try.prog C 93 #[t109, (Go.Value.int Go.IntKind.i64 7)] w fun t110 w =>
    Quiet Try.prog C (binOp .sub 3 it12 (Go.Value.int Go.IntKind.i64 15)) w fun t113 w =>
    Quiet Try.prog C (Instr.indexAt 118 it8 t113) w fun t114 w =>
    Quiet Try.prog C (Instr.loadAt 120 t114) w fun t115 w =>
    QCall Try.prog C 93 #[t115, (Go.Value.int Go.IntKind.i64 18)] w fun t116 w =>
    Quiet Try.prog C (binOp .xor 120 t110 t116) w fun t117 w =>
    Quiet Try.prog C (binOp .sub 3 it12 (Go.Value.int Go.IntKind.i64 15)) w fun t120 w =>
    Quiet Try.prog C (Instr.indexAt 118 it8 t120) w fun t121 w =>
    Quiet Try.prog C (Instr.loadAt 120 t121) w fun t122 w =>
    Quiet Try.prog C (binOp .shr 120 t122 (Go.Value.int Go.IntKind.u64 3)) w fun t123 w =>
    Quiet Try.prog C (binOp .xor 120 t117 t123) w fun t124 w =>
    ∀ W, C W → J t124 W
    ) : DrawP Try.prog 305 (opsOf Try.f72 23) [8, 12] [it8, it12] [13] J w :=
  draw_quiet C (by kernel_rfl) hC (Eq.mp (by kernel_rfl) h)

theorem q72_24 {it8 it12 : Value} {w : World} {J : VF 1} (C : World → Prop) (hC : C { w with drawn := w.drawn + 1 })
    (h : ∀ _ : Nat → Value,
    Quiet Try.prog C (binOp .sub 3 it12 (Go.Value.int Go.IntKind.i64 2)) w fun t127 w =>
    Quiet Try.prog C (Instr.indexAt 118 it8 t127) w fun t128 w =>
    Quiet Try.prog C (Instr.loadAt 120 t128) w fun t129 w =>
    QCall Try.prog C 93 #[t129, (Go.Value.int Go.IntKind.i64 17)] w fun t130 w =>
    Quiet Try.prog C (binOp .sub 3 it12 (Go.Value.int Go.IntKind.i64 2)) w fun t133 w =>
    Quiet Try.prog C (Instr.indexAt 118 it8 t133) w fun t134 w =>
    Quiet Try.prog C (Instr.loadAt 120 t134) w fun t135 w =>
    QCall Try.prog C 93 #[t135, (Go.Value.int Go.IntKind.i64 19)] w fun t136 w =>
    Quiet Try.prog C (binOp .xor 120 t130 t136) w fun t137 w =>
    Quiet Try.prog C (binOp .sub 3 it12 (Go.Value.int Go.IntKind.i64 2)) w fun t140 w =>
    Quiet Try.prog C (Instr.indexAt 118 it8 t140) w fun t141 w =>
    Quiet Try.prog C (Instr.loadAt 120 t141) w fun t142 w =>
    Quiet Try.prog C (binOp .shr 120 t142 (Go.Value.int Go.IntKind.u64 10)) w fun t143 w =>
    Quiet Try.prog C (binOp .xor 120 t137 t143) w fun t144 w =>
    ∀ W, C W → J t144 W
    ) : DrawP Try.prog 305 (opsOf Try.f72 24) [8, 12] [it8, it12] [14] J w :=
  draw_quiet C (by kernel_rfl) hC (Eq.mp (by kernel_rfl) h)

theorem q72_31 {it15 : Value} {w : World} {J : VF 1} (C : World → Prop) (hC : C { w with drawn := w.drawn + 1 })
    (h : ∀ _ : Nat → Value,
    Quiet Try.prog C (Instr.indexAt 123 it15 (Go.Value.int Go.IntKind.i64 4)) w fun t170 w =>
    Quiet Try.prog C (Instr.loadAt 120 t170) w fun t171 w =>
    QCall Try.prog C 93 #[t171, (Go.Value.int Go.IntKind.i64 6)] w fun t172 w =>
    Quiet Try.prog C (Instr.indexAt 123 it15 (Go.Value.int Go.IntKind.i64 4)) w fun t173 w =>
    Quiet Try.prog C (Instr.loadAt 120 t173) w fun t174 w =>
    QCall Try.prog C 93 #[t174, (Go.Value.int Go.IntKind.i64 11)] w fun t175 w =>
    Quiet Try.prog C (binOp .xor 120 t172 t175) w fun t176 w =>
    Quiet Try.prog C (Instr.indexAt 123 it15 (Go.Value.int Go.IntKind.i64 4)) w fun t177 w =>
    Quiet Try.prog C (Instr.loadAt 120 t177) w fun t178 w =>
    QCall Try.prog C 93 #[t178, (Go.Value.int Go.IntKind.i64 25)] w fun t179 w =>
    Quiet Try.prog C (binOp .xor 120 t176 t179) w fun t180 w =>
    ∀ W, C W → J t180 W
    ) : DrawP Try.prog 305 (opsOf Try.f72 31) [15] [it15] [17] J w :=
  draw_quiet C (by kernel_rfl) hC (Eq.mp (by kernel_rfl) h)

theorem q72_33 {ir3 it8 it15 it16 it17 it18 : Value} {w : World} {J : VF 1} (C : World → Prop) (hC : C { w with drawn := w.drawn + 1 })
    (h : ∀ _ : Nat → Value,
    Quiet Try.prog C (Instr.indexAt 123 it15 (Go.Value.int Go.IntKind.i64 7)) w fun t193 w =>
    Quiet Try.prog C (Instr.loadAt 120 t193) w fun t194 w =>
    Quiet Try.prog C (binOp .add 120 t194 it17) w fun t196 w =>
    Quiet Try.prog C (binOp .add 120 t196 it18) w fun t198 w =>
    Quiet Try.prog C (Instr.indexAt 118 ir3 it16) w fun t201 w =>
    Quiet Try.prog C (Instr.loadAt 120 t201) w fun t202 w =>
    Quiet Try.prog C (binOp .add 120 t198 t202) w fun t203 w =>
    Quiet Try.prog C (Instr.indexAt 118 it8 it16) w fun t206 w =>
    Quiet Try.prog C (Instr.loadAt 120 t206) w fun t207 w =>
    Quiet Try.prog C (binOp .add 120 t203 t207) w fun t208 w =>
    ∀ W, C W → J t208 W
    ) : DrawP Try.prog 305 (opsOf Try.f72 33) [3, 8, 15, 16, 17, 18] [ir3, it8, it15, it16, it17, it18] [19] J w :=
  draw_quiet C (by kernel_rfl) hC (Eq.mp (by kernel_rfl) h)

theorem q72_34 {it15 : Value} {w : World} {J : VF 1} (C : World → Prop) (hC : C { w with drawn := w.drawn + 1 })
    (h : ∀ _ : Nat → Value,
    Quiet Try.prog C (Instr.indexAt 123 it15 (Go.Value.int Go.IntKind.i64 0)) w fun t209 w =>
    Quiet Try.prog C (Instr.loadAt 120 t209) w fun t210 w =>
    QCall Try.prog C 93 #[t210, (Go.Value.int Go.IntKind.i64 2)] w fun t211 w =>
    Quiet Try.prog C (Instr.indexAt 123 it15 (Go.Value.int Go.IntKind.i64 0)) w fun t212 w =>
    Quiet Try.prog C (Instr.loadAt 120 t212) w fun t213 w =>
    QCall Try.prog C 93 #[t213, (Go.Value.int Go.IntKind.i64 13)] w fun t214 w =>
    Quiet Try.prog C (binOp .xor 120 t211 t214) w fun t215 w =>
    Quiet Try.prog C (Instr.indexAt 123 it15 (Go.Value.int Go.IntKind.i64 0)) w fun t216 w =>
    Quiet Try.prog C (Instr.loadAt 120 t216) w fun t217 w =>
    QCall Try.prog C 93 #[t217, (Go.Value.int Go.IntKind.i64 22)] w fun t218 w =>
    Quiet Try.prog C (binOp .xor 120 t215 t218) w fun t219 w =>
    ∀ W, C W → J t219 W
    ) : DrawP Try.prog 305 (opsOf Try.f72 34) [15] [it15] [20] J w :=
  draw_quiet C (by kernel_rfl) hC (Eq.mp (by kernel_rfl) h)

theorem h72_19 {ia5 it8 it10 it11 : Value} {w : World} {J : VF 0} (w0 : World) (C : Nat → World → Prop) 
    (hw : Ext w0 w)  (h0 : C 0 { w with drawn := w.drawn + 1 })
    (h :     Quiet Try.prog (Stg w0 w C 0 0) (Instr.indexAt 34 ia5 it11) w fun t73 w =>
    Quiet Try.prog (Stg w0 w C 0 0) (Instr.loadAt 5 t73) w fun t74 w =>
    Quiet Try.prog (Stg w0 w C 0 0) (convert 5 120 t74) w fun t75 w =>
    Quiet Try.prog (Stg w0 w C 0 0) (binOp .shl 120 t75 (Go.Value.int Go.IntKind.u64 24)) w fun t76 w =>
    Quiet Try.prog (Stg w0 w C 0 0) (binOp .add 3 it11 (Go.Value.int Go.IntKind.i64 1)) w fun t79 w =>
    Quiet Try.prog (Stg w0 w C 0 0) (Instr.indexAt 34 ia5 t79) w fun t80 w =>
    Quiet Try.prog (Stg w0 w C 0 0) (Instr.loadAt 5 t80) w fun t81 w =>
    Quiet Try.prog (Stg w0 w C 0 0) (convert 5 120 t81) w fun t82 w =>
    Quiet Try.prog (Stg w0 w C 0 0) (binOp .shl 120 t82 (Go.Value.int Go.IntKind.u64 16)) w fun t83 w =>
    Quiet Try.prog (Stg w0 w C 0 0) (binOp .or 120 t76 t83) w fun t84 w =>
    Quiet Try.prog (Stg w0 w C 0 0) (binOp .add 3 it11 (Go.Value.int Go.IntKind.i64 2)) w fun t87 w =>
    Quiet Try.prog (Stg w0 w C 0 0) (Instr.indexAt 34 ia5 t87) w fun t88 w =>
    Quiet Try.prog (Stg w0 w C 0 0) (Instr.loadAt 5 t88) w fun t89 w =>
    Quiet Try.prog (Stg w0 w C 0 0) (convert 5 120 t89) w fun t90 w =>
    Quiet Try.prog (Stg w0 w C 0 0) (binOp .shl 120 t90 (Go.Value.int Go.IntKind.u64 8)) w fun t91 w =>
    Quiet Try.prog (Stg w0 w C 0 0) (binOp .or 120 t84 t91) w fun t92 w =>
    Quiet Try.prog (Stg w0 w C 0 0) (binOp .add 3 it11 (Go.Value.int Go.IntKind.i64 3)) w fun t95 w =>
    Quiet Try.prog (Stg w0 w C 0 0) (Instr.indexAt 34 ia5 t95) w fun t96 w =>
    Quiet Try.prog (Stg w0 w C 0 0) (Instr.loadAt 5 t96) w fun t97 w =>
    Quiet Try.prog (Stg w0 w C 0 0) (convert 5 120 t97) w fun t98 w =>
    Quiet Try.prog (Stg w0 w C 0 0) (binOp .or 120 t92 t98) w fun t99 w =>
    Quiet Try.prog (Stg w0 w C 0 0) (Instr.indexAt 118 it8 it10) w fun t100 w =>
    (∀ W, At w0 w W → C 0 W → 
      Does Try.prog (Instr.storeAt 120 t100 t99) W fun _ w =>
      (At w0 W w ∧ C 1 w ∧ True ∧ True)
    ) ∧
    (∀ W, At w0 w W → C 1 W → J  W)) :
    DrawP Try.prog 305 (opsOf Try.f72 19) [5, 8, 10, 11] [ia5, it8, it10, it11] [] J w := by
  obtain ⟨ct73, y4, h⟩ := h
  obtain ⟨ct74, y5, h⟩ := h
  obtain ⟨ct75, y6, h⟩ := h
  obtain ⟨ct76, y7, h⟩ := h
  obtain ⟨ct79, y10, h⟩ := h
  obtain ⟨ct80, y11, h⟩ := h
  obtain ⟨ct81, y12, h⟩ := h
  obtain ⟨ct82, y13, h⟩ := h
  obtain ⟨ct83, y14, h⟩ := h
  obtain ⟨ct84, y15, h⟩ := h
  obtain ⟨ct87, y18, h⟩ := h
  obtain ⟨ct88, y19, h⟩ := h
  obtain ⟨ct89, y20, h⟩ := h
  obtain ⟨ct90, y21, h⟩ := h
  obtain ⟨ct91, y22, h⟩ := h
  obtain ⟨ct92, y23, h⟩ := h
  obtain ⟨ct95, y26, h⟩ := h
  obtain ⟨ct96, y27, h⟩ := h
  obtain ⟨ct97, y28, h⟩ := h
  obtain ⟨ct98, y29, h⟩ := h
  obtain ⟨ct99, y30, h⟩ := h
  obtain ⟨ct100, y31, h⟩ := h
  obtain ⟨o32, fin⟩ := h
  have hall : ∀ _ : Nat → Value,
    (∀ k : Nat, 0 ≤ k → k ≤ 0 → ∀ W, SR w0 { w with drawn := w.drawn + 1 } W → C k W → 
      (Ext W W ∧ C k W ∧ it8 = it8)
    ) ∧
    (∀ k : Nat, 0 ≤ k → k ≤ 0 → ∀ W, SR w0 { w with drawn := w.drawn + 1 } W → C k W → 
      (Ext W W ∧ C k W ∧ it10 = it10)
    ) ∧
    (∀ k : Nat, 0 ≤ k → k ≤ 0 → ∀ W, SR w0 { w with drawn := w.drawn + 1 } W → C k W → 
      (Ext W W ∧ C k W ∧ ia5 = ia5)
    ) ∧
    (∀ k : Nat, 0 ≤ k → k ≤ 0 → ∀ W, SR w0 { w with drawn := w.drawn + 1 } W → C k W → 
      (Ext W W ∧ C k W ∧ it11 = it11)
    ) ∧
    (∀ t71 t72 : Value, ∀ k : Nat, 0 ≤ k → k ≤ 0 → ∀ W, SR w0 { w with drawn := w.drawn + 1 } W → C k W → t71 = ia5 → t72 = it11 → 
      Does Try.prog (Instr.indexAt 34 t71 t72) W fun t73 w =>
      (Ext W w ∧ C k w ∧ t73 = ct73)
    ) ∧
    (∀ t73 : Value, ∀ k : Nat, 0 ≤ k → k ≤ 0 → ∀ W, SR w0 { w with drawn := w.drawn + 1 } W → C k W → t73 = ct73 → 
      Does Try.prog (Instr.loadAt 5 t73) W fun t74 w =>
      (Ext W w ∧ C k w ∧ t74 = ct74)
    ) ∧
    (∀ t74 : Value, ∀ k : Nat, 0 ≤ k → k ≤ 0 → ∀ W, SR w0 { w with drawn := w.drawn + 1 } W → C k W → t74 = ct74 → 
      Does Try.prog (convert 5 120 t74) W fun t75 w =>
      (Ext W w ∧ C k w ∧ t75 = ct75)
    ) ∧
    (∀ t75 : Value, ∀ k : Nat, 0 ≤ k → k ≤ 0 → ∀ W, SR w0 { w with drawn := w.drawn + 1 } W → C k W → t75 = ct75 → 
      Does Try.prog (binOp .shl 120 t75 (Go.Value.int Go.IntKind.u64 24)) W fun t76 w =>
      (Ext W w ∧ C k w ∧ t76 = ct76)
    ) ∧
    (∀ k : Nat, 0 ≤ k → k ≤ 0 → ∀ W, SR w0 { w with drawn := w.drawn + 1 } W → C k W → 
      (Ext W W ∧ C k W ∧ ia5 = ia5)
    ) ∧
    (∀ k : Nat, 0 ≤ k → k ≤ 0 → ∀ W, SR w0 { w with drawn := w.drawn + 1 } W → C k W → 
      (Ext W W ∧ C k W ∧ it11 = it11)
    ) ∧
    (∀ t78 : Value, ∀ k : Nat, 0 ≤ k → k ≤ 0 → ∀ W, SR w0 { w with drawn := w.drawn + 1 } W → C k W → t78 = it11 → 
      Does Try.prog (binOp .add 3 t78 (Go.Value.int Go.IntKind.i64 1)) W fun t79 w =>
      (Ext W w ∧ C k w ∧ t79 = ct79)
    ) ∧
    (∀ t77 t79 : Value, ∀ k : Nat, 0 ≤ k → k ≤ 0 → ∀ W, SR w0 { w with drawn := w.drawn + 1 } W → C k W → t77 = ia5 → t79 = ct79 → 
      Does Try.prog (Instr.indexAt 34 t77 t79) W fun t80 w =>
      (Ext W w ∧ C k w ∧ t80 = ct80)
    ) ∧
    (∀ t80 : Value, ∀ k : Nat, 0 ≤ k → k ≤ 0 → ∀ W, SR w0 { w with drawn := w.drawn + 1 } W → C k W → t80 = ct80 → 
      Does Try.prog (Instr.loadAt 5 t80) W fun t81 w =>
      (Ext W w ∧ C k w ∧ t81 = ct81)
    ) ∧
    (∀ t81 : Value, ∀ k : Nat, 0 ≤ k → k ≤ 0 → ∀ W, SR w0 { w with drawn := w.drawn + 1 } W → C k W → t81 = ct81 → 
      Does Try.prog (convert 5 120 t81) W fun t82 w =>
      (Ext W w ∧ C k w ∧ t82 = ct82)
    ) ∧
    (∀ t82 : Value, ∀ k : Nat, 0 ≤ k → k ≤ 0 → ∀ W, SR w0 { w with drawn := w.drawn + 1 } W → C k W → t82 = ct82 → 
      Does Try.prog (binOp .shl 120 t82 (Go.Value.int Go.IntKind.u64 16)) W fun t83 w =>
      (Ext W w ∧ C k w ∧ t83 = ct83)
    ) ∧
    (∀ t76 t83 : Value, ∀ k : Nat, 0 ≤ k → k ≤ 0 → ∀ W, SR w0 { w with drawn := w.drawn + 1 } W → C k W → t76 = ct76 → t83 = ct83 → 
      Does Try.prog (binOp .or 120 t76 t83) W fun t84 w =>
      (Ext W w ∧ C k w ∧ t84 = ct84)
    ) ∧
    (∀ k : Nat, 0 ≤ k → k ≤ 0 → ∀ W, SR w0 { w with drawn := w.drawn + 1 } W → C k W → 
      (Ext W W ∧ C k W ∧ ia5 = ia5)
    ) ∧
    (∀ k : Nat, 0 ≤ k → k ≤ 0 → ∀ W, SR w0 { w with drawn := w.drawn + 1 } W → C k W → 
      (Ext W W ∧ C k W ∧ it11 = it11)
    ) ∧
    (∀ t86 : Value, ∀ k : Nat, 0 ≤ k → k ≤ 0 → ∀ W, SR w0 { w with drawn := w.drawn + 1 } W → C k W → t86 = it11 → 
      Does Try.prog (binOp .add 3 t86 (Go.Value.int Go.IntKind.i64 2)) W fun t87 w =>
      (Ext W w ∧ C k w ∧ t87 = ct87)
    ) ∧
    (∀ t85 t87 : Value, ∀ k : Nat, 0 ≤ k → k ≤ 0 → ∀ W, SR w0 { w with drawn := w.drawn + 1 } W → C k W → t85 = ia5 → t87 = ct87 → 
      Does Try.prog (Instr.indexAt 34 t85 t87) W fun t88 w =>
      (Ext W w ∧ C k w ∧ t88 = ct88)
    ) ∧
    (∀ t88 : Value, ∀ k : Nat, 0 ≤ k → k ≤ 0 → ∀ W, SR w0 { w with drawn := w.drawn + 1 } W → C k W → t88 = ct88 → 
      Does Try.prog (Instr.loadAt 5 t88) W fun t89 w =>
      (Ext W w ∧ C k w ∧ t89 = ct89)
    ) ∧
    (∀ t89 : Value, ∀ k : Nat, 0 ≤ k → k ≤ 0 → ∀ W, SR w0 { w with drawn := w.drawn + 1 } W → C k W → t89 = ct89 → 
      Does Try.prog (convert 5 120 t89) W fun t90 w =>
      (Ext W w ∧ C k w ∧ t90 = ct90)
    ) ∧
    (∀ t90 : Value, ∀ k : Nat, 0 ≤ k → k ≤ 0 → ∀ W, SR w0 { w with drawn := w.drawn + 1 } W → C k W → t90 = ct90 → 
      Does Try.prog (binOp .shl 120 t90 (Go.Value.int Go.IntKind.u64 8)) W fun t91 w =>
      (Ext W w ∧ C k w ∧ t91 = ct91)
    ) ∧
    (∀ t84 t91 : Value, ∀ k : Nat, 0 ≤ k → k ≤ 0 → ∀ W, SR w0 { w with drawn := w.drawn + 1 } W → C k W → t84 = ct84 → t91 = ct91 → 
      Does Try.prog (binOp .or 120 t84 t91) W fun t92 w =>
      (Ext W w ∧ C k w ∧ t92 = ct92)
    ) ∧
    (∀ k : Nat, 0 ≤ k → k ≤ 0 → ∀ W, SR w0 { w with drawn := w.drawn + 1 } W → C k W → 
      (Ext W W ∧ C k W ∧ ia5 = ia5)
    ) ∧
    (∀ k : Nat, 0 ≤ k → k ≤ 0 → ∀ W, SR w0 { w with drawn := w.drawn + 1 } W → C k W → 
      (Ext W W ∧ C k W ∧ it11 = it11)
    ) ∧
    (∀ t94 : Value, ∀ k : Nat, 0 ≤ k → k ≤ 0 → ∀ W, SR w0 { w with drawn := w.drawn + 1 } W → C k W → t94 = it11 → 
      Does Try.prog (binOp .add 3 t94 (Go.Value.int Go.IntKind.i64 3)) W fun t95 w =>
      (Ext W w ∧ C k w ∧ t95 = ct95)
    ) ∧
    (∀ t93 t95 : Value, ∀ k : Nat, 0 ≤ k → k ≤ 0 → ∀ W, SR w0 { w with drawn := w.drawn + 1 } W → C k W → t93 = ia5 → t95 = ct95 → 
      Does Try.prog (Instr.indexAt 34 t93 t95) W fun t96 w =>
      (Ext W w ∧ C k w ∧ t96 = ct96)
    ) ∧
    (∀ t96 : Value, ∀ k : Nat, 0 ≤ k → k ≤ 0 → ∀ W, SR w0 { w with drawn := w.drawn + 1 } W → C k W → t96 = ct96 → 
      Does Try.prog (Instr.loadAt 5 t96) W fun t97 w =>
      (Ext W w ∧ C k w ∧ t97 = ct97)
    ) ∧
    (∀ t97 : Value, ∀ k : Nat, 0 ≤ k → k ≤ 0 → ∀ W, SR w0 { w with drawn := w.drawn + 1 } W → C k W → t97 = ct97 → 
      Does Try.prog (convert 5 120 t97) W fun t98 w =>
      (Ext W w ∧ C k w ∧ t98 = ct98)
    ) ∧
    (∀ t92 t98 : Value, ∀ k : Nat, 0 ≤ k → k ≤ 0 → ∀ W, SR w0 { w with drawn := w.drawn + 1 } W → C k W → t92 = ct92 → t98 = ct98 → 
      Does Try.prog (binOp .or 120 t92 t98) W fun t99 w =>
      (Ext W w ∧ C k w ∧ t99 = ct99)
    ) ∧
    (∀ t69 t70 : Value, ∀ k : Nat, 0 ≤ k → k ≤ 0 → ∀ W, SR w0 { w with drawn := w.drawn + 1 } W → C k W → t69 = it8 → t70 = it10 → 
      Does Try.prog (Instr.indexAt 118 t69 t70) W fun t100 w =>
      (Ext W w ∧ C k w ∧ t100 = ct100)
    ) ∧
    (∀ t100 t99 : Value, ∀ W, SR w0 { w with drawn := w.drawn + 1 } W → C 0 W → t100 = ct100 → t99 = ct99 → 
      Does Try.prog (Instr.storeAt 120 t100 t99) W fun _ w =>
      (SR w0 W w ∧ C 1 w ∧ True ∧ (∀ v : Value, v = it8 → v = it8) ∧ (∀ v : Value, v = it10 → v = it10) ∧ (∀ v : Value, v = ia5 → v = ia5) ∧ (∀ v : Value, v = it11 → v = it11) ∧ (∀ v : Value, v = ct73 → v = ct73) ∧ (∀ v : Value, v = ct74 → v = ct74) ∧ (∀ v : Value, v = ct75 → v = ct75) ∧ (∀ v : Value, v = ct76 → v = ct76) ∧ (∀ v : Value, v = ia5 → v = ia5) ∧ (∀ v : Value, v = it11 → v = it11) ∧ (∀ v : Value, v = ct79 → v = ct79) ∧ (∀ v : Value, v = ct80 → v = ct80) ∧ (∀ v : Value, v = ct81 → v = ct81) ∧ (∀ v : Value, v = ct82 → v = ct82) ∧ (∀ v : Value, v = ct83 → v = ct83) ∧ (∀ v : Value, v = ct84 → v = ct84) ∧ (∀ v : Value, v = ia5 → v = ia5) ∧ (∀ v : Value, v = it11 → v = it11) ∧ (∀ v : Value, v = ct87 → v = ct87) ∧ (∀ v : Value, v = ct88 → v = ct88) ∧ (∀ v : Value, v = ct89 → v = ct89) ∧ (∀ v : Value, v = ct90 → v = ct90) ∧ (∀ v : Value, v = ct91 → v = ct91) ∧ (∀ v : Value, v = ct92 → v = ct92) ∧ (∀ v : Value, v = ia5 → v = ia5) ∧ (∀ v : Value, v = it11 → v = it11) ∧ (∀ v : Value, v = ct95 → v = ct95) ∧ (∀ v : Value, v = ct96 → v = ct96) ∧ (∀ v : Value, v = ct97 → v = ct97) ∧ (∀ v : Value, v = ct98 → v = ct98) ∧ (t99 = ct99 → t99 = ct99) ∧ (t100 = ct100 → t100 = ct100) ∧ True)
    ) ∧ True := fun _ => ⟨
    fun  k hk1 hk2 W hS hC  => (by exact ⟨Ext.refl _, hC, rfl⟩),
    fun  k hk1 hk2 W hS hC  => (by exact ⟨Ext.refl _, hC, rfl⟩),
    fun  k hk1 hk2 W hS hC  => (by exact ⟨Ext.refl _, hC, rfl⟩),
    fun  k hk1 hk2 W hS hC  => (by exact ⟨Ext.refl _, hC, rfl⟩),
    fun t71 t72 k hk1 hk2 W hS hC ht71 ht72 => (by subst ht71; subst ht72; exact ⟨_, W, y4 W ⟨SR.at hw hS, k, hk1, hk2, hC⟩, Ext.refl _, hC, rfl⟩),
    fun t73 k hk1 hk2 W hS hC ht73 => (by subst ht73; exact ⟨_, W, y5 W ⟨SR.at hw hS, k, hk1, hk2, hC⟩, Ext.refl _, hC, rfl⟩),
    fun t74 k hk1 hk2 W hS hC ht74 => (by subst ht74; exact ⟨_, W, y6 W ⟨SR.at hw hS, k, hk1, hk2, hC⟩, Ext.refl _, hC, rfl⟩),
    fun t75 k hk1 hk2 W hS hC ht75 => (by subst ht75; exact ⟨_, W, y7 W ⟨SR.at hw hS, k, hk1, hk2, hC⟩, Ext.refl _, hC, rfl⟩),
    fun  k hk1 hk2 W hS hC  => (by exact ⟨Ext.refl _, hC, rfl⟩),
    fun  k hk1 hk2 W hS hC  => (by exact ⟨Ext.refl _, hC, rfl⟩),
    fun t78 k hk1 hk2 W hS hC ht78 => (by subst ht78; exact ⟨_, W, y10 W ⟨SR.at hw hS, k, hk1, hk2, hC⟩, Ext.refl _, hC, rfl⟩),
    fun t77 t79 k hk1 hk2 W hS hC ht77 ht79 => (by subst ht77; subst ht79; exact ⟨_, W, y11 W ⟨SR.at hw hS, k, hk1, hk2, hC⟩, Ext.refl _, hC, rfl⟩),
    fun t80 k hk1 hk2 W hS hC ht80 => (by subst ht80; exact ⟨_, W, y12 W ⟨SR.at hw hS, k, hk1, hk2, hC⟩, Ext.refl _, hC, rfl⟩),
    fun t81 k hk1 hk2 W hS hC ht81 => (by subst ht81; exact ⟨_, W, y13 W ⟨SR.at hw hS, k, hk1, hk2, hC⟩, Ext.refl _, hC, rfl⟩),
    fun t82 k hk1 hk2 W hS hC ht82 => (by subst ht82; exact ⟨_, W, y14 W ⟨SR.at hw hS, k, hk1, hk2, hC⟩, Ext.refl _, hC, rfl⟩),
    fun t76 t83 k hk1 hk2 W hS hC ht76 ht83 => (by subst ht76; subst ht83; exact ⟨_, W, y15 W ⟨SR.at hw hS, k, hk1, hk2, hC⟩, Ext.refl _, hC, rfl⟩),
    fun  k hk1 hk2 W hS hC  => (by exact ⟨Ext.refl _, hC, rfl⟩),
    fun  k hk1 hk2 W hS hC  => (by exact ⟨Ext.refl _, hC, rfl⟩),
    fun t86 k hk1 hk2 W hS hC ht86 => (by subst ht86; exact ⟨_, W, y18 W ⟨SR.at hw hS, k, hk1, hk2, hC⟩, Ext.refl _, hC, rfl⟩),
    fun t85 t87 k hk1 hk2 W hS hC ht85 ht87 => (by subst ht85; subst ht87; exact ⟨_, W, y19 W ⟨SR.at hw hS, k, hk1, hk2, hC⟩, Ext.refl _, hC, rfl⟩),
    fun t88 k hk1 hk2 W hS hC ht88 => (by subst ht88; exact ⟨_, W, y20 W ⟨SR.at hw hS, k, hk1, hk2, hC⟩, Ext.refl _, hC, rfl⟩),
    fun t89 k hk1 hk2 W hS hC ht89 => (by subst ht89; exact ⟨_, W, y21 W ⟨SR.at hw hS, k, hk1, hk2, hC⟩, Ext.refl _, hC, rfl⟩),
    fun t90 k hk1 hk2 W hS hC ht90 => (by subst ht90; exact ⟨_, W, y22 W ⟨SR.at hw hS, k, hk1, hk2, hC⟩, Ext.refl _, hC, rfl⟩),
    fun t84 t91 k hk1 hk2 W hS hC ht84 ht91 => (by subst ht84; subst ht91; exact ⟨_, W, y23 W ⟨SR.at hw hS, k, hk1, hk2, hC⟩, Ext.refl _, hC, rfl⟩),
    fun  k hk1 hk2 W hS hC  => (by exact ⟨Ext.refl _, hC, rfl⟩),
    fun  k hk1 hk2 W hS hC  => (by exact ⟨Ext.refl _, hC, rfl⟩),
    fun t94 k hk1 hk2 W hS hC ht94 => (by subst ht94; exact ⟨_, W, y26 W ⟨SR.at hw hS, k, hk1, hk2, hC⟩, Ext.refl _, hC, rfl⟩),
    fun t93 t95 k hk1 hk2 W hS hC ht93 ht95 => (by subst ht93; subst ht95; exact ⟨_, W, y27 W ⟨SR.at hw hS, k, hk1, hk2, hC⟩, Ext.refl _, hC, rfl⟩),
    fun t96 k hk1 hk2 W hS hC ht96 => (by subst ht96; exact ⟨_, W, y28 W ⟨SR.at hw hS, k, hk1, hk2, hC⟩, Ext.refl _, hC, rfl⟩),
    fun t97 k hk1 hk2 W hS hC ht97 => (by subst ht97; exact ⟨_, W, y29 W ⟨SR.at hw hS, k, hk1, hk2, hC⟩, Ext.refl _, hC, rfl⟩),
    fun t92 t98 k hk1 hk2 W hS hC ht92 ht98 => (by subst ht92; subst ht98; exact ⟨_, W, y30 W ⟨SR.at hw hS, k, hk1, hk2, hC⟩, Ext.refl _, hC, rfl⟩),
    fun t69 t70 k hk1 hk2 W hS hC ht69 ht70 => (by subst ht69; subst ht70; exact ⟨_, W, y31 W ⟨SR.at hw hS, k, hk1, hk2, hC⟩, Ext.refl _, hC, rfl⟩),
    fun t100 t99 W hS hC ht100 ht99 => (by subst ht100; subst ht99; exact Does.mono (o32  W (SR.at hw hS) hC ) fun _ _ h => ⟨SR.of h.1, h.2.1, h.2.2.1, fun _ h => h, fun _ h => h, fun _ h => h, fun _ h => h, fun _ h => h, fun _ h => h, fun _ h => h, fun _ h => h, fun _ h => h, fun _ h => h, fun _ h => h, fun _ h => h, fun _ h => h, fun _ h => h, fun _ h => h, fun _ h => h, fun _ h => h, fun _ h => h, fun _ h => h, fun _ h => h, fun _ h => h, fun _ h => h, fun _ h => h, fun _ h => h, fun _ h => h, fun _ h => h, fun _ h => h, fun _ h => h, fun _ h => h, fun _ h => h, fun h => h, fun h => h, trivial⟩),
    trivial⟩
  have hst := lkF2_st (S := Ext) (l := [(0, fun _ v _ => v = it8), (1, fun _ v _ => v = it10), (2, fun _ v _ => v = ia5), (3, fun _ v _ => v = it11), (4, fun _ v _ => v = ct73), (5, fun _ v _ => v = ct74), (6, fun _ v _ => v = ct75), (7, fun _ v _ => v = ct76), (8, fun _ v _ => v = ia5), (9, fun _ v _ => v = it11), (10, fun _ v _ => v = ct79), (11, fun _ v _ => v = ct80), (12, fun _ v _ => v = ct81), (13, fun _ v _ => v = ct82), (14, fun _ v _ => v = ct83), (15, fun _ v _ => v = ct84), (16, fun _ v _ => v = ia5), (17, fun _ v _ => v = it11), (18, fun _ v _ => v = ct87), (19, fun _ v _ => v = ct88), (20, fun _ v _ => v = ct89), (21, fun _ v _ => v = ct90), (22, fun _ v _ => v = ct91), (23, fun _ v _ => v = ct92), (24, fun _ v _ => v = ia5), (25, fun _ v _ => v = it11), (26, fun _ v _ => v = ct95), (27, fun _ v _ => v = ct96), (28, fun _ v _ => v = ct97), (29, fun _ v _ => v = ct98), (30, fun _ v _ => v = ct99), (31, fun _ v _ => v = ct100)]) (fun p hp => by
    simp only [List.mem_cons, List.not_mem_nil, or_false] at hp
    rcases hp with rfl | rfl | rfl | rfl | rfl | rfl | rfl | rfl | rfl | rfl | rfl | rfl | rfl | rfl | rfl | rfl | rfl | rfl | rfl | rfl | rfl | rfl | rfl | rfl | rfl | rfl | rfl | rfl | rfl | rfl | rfl | rfl
    · exact fun _ => FSt.const _
    · exact fun _ => FSt.const _
    · exact fun _ => FSt.const _
    · exact fun _ => FSt.const _
    · exact fun _ => FSt.const _
    · exact fun _ => FSt.const _
    · exact fun _ => FSt.const _
    · exact fun _ => FSt.const _
    · exact fun _ => FSt.const _
    · exact fun _ => FSt.const _
    · exact fun _ => FSt.const _
    · exact fun _ => FSt.const _
    · exact fun _ => FSt.const _
    · exact fun _ => FSt.const _
    · exact fun _ => FSt.const _
    · exact fun _ => FSt.const _
    · exact fun _ => FSt.const _
    · exact fun _ => FSt.const _
    · exact fun _ => FSt.const _
    · exact fun _ => FSt.const _
    · exact fun _ => FSt.const _
    · exact fun _ => FSt.const _
    · exact fun _ => FSt.const _
    · exact fun _ => FSt.const _
    · exact fun _ => FSt.const _
    · exact fun _ => FSt.const _
    · exact fun _ => FSt.const _
    · exact fun _ => FSt.const _
    · exact fun _ => FSt.const _
    · exact fun _ => FSt.const _
    · exact fun _ => FSt.const _
    · exact fun _ => FSt.const _
    )
  have hf : ∀ W, SR w0 { w with drawn := w.drawn + 1 } W → C 1 W → J  W := fun  W hS hC  => (by exact fin  W (SR.at hw hS) hC )
  exact draw_phi2 (T := [32]) Ext (SR w0) C (lkF2 [(0, fun _ v _ => v = it8), (1, fun _ v _ => v = it10), (2, fun _ v _ => v = ia5), (3, fun _ v _ => v = it11), (4, fun _ v _ => v = ct73), (5, fun _ v _ => v = ct74), (6, fun _ v _ => v = ct75), (7, fun _ v _ => v = ct76), (8, fun _ v _ => v = ia5), (9, fun _ v _ => v = it11), (10, fun _ v _ => v = ct79), (11, fun _ v _ => v = ct80), (12, fun _ v _ => v = ct81), (13, fun _ v _ => v = ct82), (14, fun _ v _ => v = ct83), (15, fun _ v _ => v = ct84), (16, fun _ v _ => v = ia5), (17, fun _ v _ => v = it11), (18, fun _ v _ => v = ct87), (19, fun _ v _ => v = ct88), (20, fun _ v _ => v = ct89), (21, fun _ v _ => v = ct90), (22, fun _ v _ => v = ct91), (23, fun _ v _ => v = ct92), (24, fun _ v _ => v = ia5), (25, fun _ v _ => v = it11), (26, fun _ v _ => v = ct95), (27, fun _ v _ => v = ct96), (28, fun _ v _ => v = ct97), (29, fun _ v _ => v = ct98), (30, fun _ v _ => v = ct99), (31, fun _ v _ => v = ct100)]) (by kernel_rfl) (SR.refl w0) (fun _ _ _ => SR.trans) (fun _ _ => SR.ofExt) hst h0 (Eq.mp (by kernel_rfl) hall) (Eq.mp (by kernel_rfl) hf)

theorem h72_25 {it8 it12 it13 it14 : Value} {w : World} {J : VF 0} (w0 : World) (C : Nat → World → Prop) 
    (hw : Ext w0 w)  (h0 : C 0 { w with drawn := w.drawn + 1 })
    (h :     Quiet Try.prog (Stg w0 w C 0 0) (binOp .sub 3 it12 (Go.Value.int Go.IntKind.i64 16)) w fun t149 w =>
    Quiet Try.prog (Stg w0 w C 0 0) (Instr.indexAt 118 it8 t149) w fun t150 w =>
    Quiet Try.prog (Stg w0 w C 0 0) (Instr.loadAt 120 t150) w fun t151 w =>
    Quiet Try.prog (Stg w0 w C 0 0) (binOp .add 120 t151 it13) w fun t153 w =>
    Quiet Try.prog (Stg w0 w C 0 0) (binOp .sub 3 it12 (Go.Value.int Go.IntKind.i64 7)) w fun t156 w =>
    Quiet Try.prog (Stg w0 w C 0 0) (Instr.indexAt 118 it8 t156) w fun t157 w =>
    Quiet Try.prog (Stg w0 w C 0 0) (Instr.loadAt 120 t157) w fun t158 w =>
    Quiet Try.prog (Stg w0 w C 0 0) (binOp .add 120 t153 t158) w fun t159 w =>
    Quiet Try.prog (Stg w0 w C 0 0) (binOp .add 120 t159 it14) w fun t161 w =>
    Quiet Try.prog (Stg w0 w C 0 0) (Instr.indexAt 118 it8 it12) w fun t162 w =>
    (∀ W, At w0 w W → C 0 W → 
      Does Try.prog (Instr.storeAt 120 t162 t161) W fun _ w =>
      (At w0 W w ∧ C 1 w ∧ True ∧ True)
    ) ∧
    (∀ W, At w0 w W → C 1 W → J  W)) :
    DrawP Try.prog 305 (opsOf Try.f72 25) [8, 12, 13, 14] [it8, it12, it13, it14] [] J w := by
  obtain ⟨ct149, y4, h⟩ := h
  obtain ⟨ct150, y5, h⟩ := h
  obtain ⟨ct151, y6, h⟩ := h
  obtain ⟨ct153, y8, h⟩ := h
  obtain ⟨ct156, y11, h⟩ := h
  obtain ⟨ct157, y12, h⟩ := h
  obtain ⟨ct158, y13, h⟩ := h
  obtain ⟨ct159, y14, h⟩ := h
  obtain ⟨ct161, y16, h⟩ := h
  obtain ⟨ct162, y17, h⟩ := h
  obtain ⟨o18, fin⟩ := h
  have hall : ∀ _ : Nat → Value,
    (∀ k : Nat, 0 ≤ k → k ≤ 0 → ∀ W, SR w0 { w with drawn := w.drawn + 1 } W → C k W → 
      (Ext W W ∧ C k W ∧ it8 = it8)
    ) ∧
    (∀ k : Nat, 0 ≤ k → k ≤ 0 → ∀ W, SR w0 { w with drawn := w.drawn + 1 } W → C k W → 
      (Ext W W ∧ C k W ∧ it12 = it12)
    ) ∧
    (∀ k : Nat, 0 ≤ k → k ≤ 0 → ∀ W, SR w0 { w with drawn := w.drawn + 1 } W → C k W → 
      (Ext W W ∧ C k W ∧ it8 = it8)
    ) ∧
    (∀ k : Nat, 0 ≤ k → k ≤ 0 → ∀ W, SR w0 { w with drawn := w.drawn + 1 } W → C k W → 
      (Ext W W ∧ C k W ∧ it12 = it12)
    ) ∧
    (∀ t148 : Value, ∀ k : Nat, 0 ≤ k → k ≤ 0 → ∀ W, SR w0 { w with drawn := w.drawn + 1 } W → C k W → t148 = it12 → 
      Does Try.prog (binOp .sub 3 t148 (Go.Value.int Go.IntKind.i64 16)) W fun t149 w =>
      (Ext W w ∧ C k w ∧ t149 = ct149)
    ) ∧
    (∀ t147 t149 : Value, ∀ k : Nat, 0 ≤ k → k ≤ 0 → ∀ W, SR w0 { w with drawn := w.drawn + 1 } W → C k W → t147 = it8 → t149 = ct149 → 
      Does Try.prog (Instr.indexAt 118 t147 t149) W fun t150 w =>
      (Ext W w ∧ C k w ∧ t150 = ct150)
    ) ∧
    (∀ t150 : Value, ∀ k : Nat, 0 ≤ k → k ≤ 0 → ∀ W, SR w0 { w with drawn := w.drawn + 1 } W → C k W → t150 = ct150 → 
      Does Try.prog (Instr.loadAt 120 t150) W fun t151 w =>
      (Ext W w ∧ C k w ∧ t151 = ct151)
    ) ∧
    (∀ k : Nat, 0 ≤ k → k ≤ 0 → ∀ W, SR w0 { w with drawn := w.drawn + 1 } W → C k W → 
      (Ext W W ∧ C k W ∧ it13 = it13)
    ) ∧
    (∀ t151 t152 : Value, ∀ k : Nat, 0 ≤ k → k ≤ 0 → ∀ W, SR w0 { w with drawn := w.drawn + 1 } W → C k W → t151 = ct151 → t152 = it13 → 
      Does Try.prog (binOp .add 120 t151 t152) W fun t153 w =>
      (Ext W w ∧ C k w ∧ t153 = ct153)
    ) ∧
    (∀ k : Nat, 0 ≤ k → k ≤ 0 → ∀ W, SR w0 { w with drawn := w.drawn + 1 } W → C k W → 
      (Ext W W ∧ C k W ∧ it8 = it8)
    ) ∧
    (∀ k : Nat, 0 ≤ k → k ≤ 0 → ∀ W, SR w0 { w with drawn := w.drawn + 1 } W → C k W → 
      (Ext W W ∧ C k W ∧ it12 = it12)
    ) ∧
    (∀ t155 : Value, ∀ k : Nat, 0 ≤ k → k ≤ 0 → ∀ W, SR w0 { w with drawn := w.drawn + 1 } W → C k W → t155 = it12 → 
      Does Try.prog (binOp .sub 3 t155 (Go.Value.int Go.IntKind.i64 7)) W fun t156 w =>
      (Ext W w ∧ C k w ∧ t156 = ct156)
    ) ∧
    (∀ t154 t156 : Value, ∀ k : Nat, 0 ≤ k → k ≤ 0 → ∀ W, SR w0 { w with drawn := w.drawn + 1 } W → C k W → t154 = it8 → t156 = ct156 → 
      Does Try.prog (Instr.indexAt 118 t154 t156) W fun t157 w =>
      (Ext W w ∧ C k w ∧ t157 = ct157)
    ) ∧
    (∀ t157 : Value, ∀ k : Nat, 0 ≤ k → k ≤ 0 → ∀ W, SR w0 { w with drawn := w.drawn + 1 } W → C k W → t157 = ct157 → 
      Does Try.prog (Instr.loadAt 120 t157) W fun t158 w =>
      (Ext W w ∧ C k w ∧ t158 = ct158)
    ) ∧
    (∀ t153 t158 : Value, ∀ k : Nat, 0 ≤ k → k ≤ 0 → ∀ W, SR w0 { w with drawn := w.drawn + 1 } W → C k W → t153 = ct153 → t158 = ct158 → 
      Does Try.prog (binOp .add 120 t153 t158) W fun t159 w =>
      (Ext W w ∧ C k w ∧ t159 = ct159)
    ) ∧
    (∀ k : Nat, 0 ≤ k → k ≤ 0 → ∀ W, SR w0 { w with drawn := w.drawn + 1 } W → C k W → 
      (Ext W W ∧ C k W ∧ it14 = it14)
    ) ∧
    (∀ t159 t160 : Value, ∀ k : Nat, 0 ≤ k → k ≤ 0 → ∀ W, SR w0 { w with drawn := w.drawn + 1 } W → C k W → t159 = ct159 → t160 = it14 → 
      Does Try.prog (binOp .add 120 t159 t160) W fun t161 w =>
      (Ext W w ∧ C k w ∧ t161 = ct161)
    ) ∧
    (∀ t145 t146 : Value, ∀ k : Nat, 0 ≤ k → k ≤ 0 → ∀ W, SR w0 { w with drawn := w.drawn + 1 } W → C k W → t145 = it8 → t146 = it12 → 
      Does Try.prog (Instr.indexAt 118 t145 t146) W fun t162 w =>
      (Ext W w ∧ C k w ∧ t162 = ct162)
    ) ∧
    (∀ t162 t161 : Value, ∀ W, SR w0 { w with drawn := w.drawn + 1 } W → C 0 W → t162 = ct162 → t161 = ct161 → 
      Does Try.prog (Instr.storeAt 120 t162 t161) W fun _ w =>
      (SR w0 W w ∧ C 1 w ∧ True ∧ (∀ v : Value, v = it8 → v = it8) ∧ (∀ v : Value, v = it12 → v = it12) ∧ (∀ v : Value, v = it8 → v = it8) ∧ (∀ v : Value, v = it12 → v = it12) ∧ (∀ v : Value, v = ct149 → v = ct149) ∧ (∀ v : Value, v = ct150 → v = ct150) ∧ (∀ v : Value, v = ct151 → v = ct151) ∧ (∀ v : Value, v = it13 → v = it13) ∧ (∀ v : Value, v = ct153 → v = ct153) ∧ (∀ v : Value, v = it8 → v = it8) ∧ (∀ v : Value, v = it12 → v = it12) ∧ (∀ v : Value, v = ct156 → v = ct156) ∧ (∀ v : Value, v = ct157 → v = ct157) ∧ (∀ v : Value, v = ct158 → v = ct158) ∧ (∀ v : Value, v = ct159 → v = ct159) ∧ (∀ v : Value, v = it14 → v = it14) ∧ (t161 = ct161 → t161 = ct161) ∧ (t162 = ct162 → t162 = ct162) ∧ True)
    ) ∧ True := fun _ => ⟨
    fun  k hk1 hk2 W hS hC  => (by exact ⟨Ext.refl _, hC, rfl⟩),
    fun  k hk1 hk2 W hS hC  => (by exact ⟨Ext.refl _, hC, rfl⟩),
    fun  k hk1 hk2 W hS hC  => (by exact ⟨Ext.refl _, hC, rfl⟩),
    fun  k hk1 hk2 W hS hC  => (by exact ⟨Ext.refl _, hC, rfl⟩),
    fun t148 k hk1 hk2 W hS hC ht148 => (by subst ht148; exact ⟨_, W, y4 W ⟨SR.at hw hS, k, hk1, hk2, hC⟩, Ext.refl _, hC, rfl⟩),
    fun t147 t149 k hk1 hk2 W hS hC ht147 ht149 => (by subst ht147; subst ht149; exact ⟨_, W, y5 W ⟨SR.at hw hS, k, hk1, hk2, hC⟩, Ext.refl _, hC, rfl⟩),
    fun t150 k hk1 hk2 W hS hC ht150 => (by subst ht150; exact ⟨_, W, y6 W ⟨SR.at hw hS, k, hk1, hk2, hC⟩, Ext.refl _, hC, rfl⟩),
    fun  k hk1 hk2 W hS hC  => (by exact ⟨Ext.refl _, hC, rfl⟩),
    fun t151 t152 k hk1 hk2 W hS hC ht151 ht152 => (by subst ht151; subst ht152; exact ⟨_, W, y8 W ⟨SR.at hw hS, k, hk1, hk2, hC⟩, Ext.refl _, hC, rfl⟩),
    fun  k hk1 hk2 W hS hC  => (by exact ⟨Ext.refl _, hC, rfl⟩),
    fun  k hk1 hk2 W hS hC  => (by exact ⟨Ext.refl _, hC, rfl⟩),
    fun t155 k hk1 hk2 W hS hC ht155 => (by subst ht155; exact ⟨_, W, y11 W ⟨SR.at hw hS, k, hk1, hk2, hC⟩, Ext.refl _, hC, rfl⟩),
    fun t154 t156 k hk1 hk2 W hS hC ht154 ht156 => (by subst ht154; subst ht156; exact ⟨_, W, y12 W ⟨SR.at hw hS, k, hk1, hk2, hC⟩, Ext.refl _, hC, rfl⟩),
    fun t157 k hk1 hk2 W hS hC ht157 => (by subst ht157; exact ⟨_, W, y13 W ⟨SR.at hw hS, k, hk1, hk2, hC⟩, Ext.refl _, hC, rfl⟩),
    fun t153 t158 k hk1 hk2 W hS hC ht153 ht158 => (by subst ht153; subst ht158; exact ⟨_, W, y14 W ⟨SR.at hw hS, k, hk1, hk2, hC⟩, Ext.refl _, hC, rfl⟩),
    fun  k hk1 hk2 W hS hC  => (by exact ⟨Ext.refl _, hC, rfl⟩),
    fun t159 t160 k hk1 hk2 W hS hC ht159 ht160 => (by subst ht159; subst ht160; exact ⟨_, W, y16 W ⟨SR.at hw hS, k, hk1, hk2, hC⟩, Ext.refl _, hC, rfl⟩),
    fun t145 t146 k hk1 hk2 W hS hC ht145 ht146 => (by subst ht145; subst ht146; exact ⟨_, W, y17 W ⟨SR.at hw hS, k, hk1, hk2, hC⟩, Ext.refl _, hC, rfl⟩),
    fun t162 t161 W hS hC ht162 ht161 => (by subst ht162; subst ht161; exact Does.mono (o18  W (SR.at hw hS) hC ) fun _ _ h => ⟨SR.of h.1, h.2.1, h.2.2.1, fun _ h => h, fun _ h => h, fun _ h => h, fun _ h => h, fun _ h => h, fun _ h => h, fun _ h => h, fun _ h => h, fun _ h => h, fun _ h => h, fun _ h => h, fun _ h => h, fun _ h => h, fun _ h => h, fun _ h => h, fun _ h => h, fun h => h, fun h => h, trivial⟩),
    trivial⟩
  have hst := lkF2_st (S := Ext) (l := [(0, fun _ v _ => v = it8), (1, fun _ v _ => v = it12), (2, fun _ v _ => v = it8), (3, fun _ v _ => v = it12), (4, fun _ v _ => v = ct149), (5, fun _ v _ => v = ct150), (6, fun _ v _ => v = ct151), (7, fun _ v _ => v = it13), (8, fun _ v _ => v = ct153), (9, fun _ v _ => v = it8), (10, fun _ v _ => v = it12), (11, fun _ v _ => v = ct156), (12, fun _ v _ => v = ct157), (13, fun _ v _ => v = ct158), (14, fun _ v _ => v = ct159), (15, fun _ v _ => v = it14), (16, fun _ v _ => v = ct161), (17, fun _ v _ => v = ct162)]) (fun p hp => by
    simp only [List.mem_cons, List.not_mem_nil, or_false] at hp
    rcases hp with rfl | rfl | rfl | rfl | rfl | rfl | rfl | rfl | rfl | rfl | rfl | rfl | rfl | rfl | rfl | rfl | rfl | rfl
    · exact fun _ => FSt.const _
    · exact fun _ => FSt.const _
    · exact fun _ => FSt.const _
    · exact fun _ => FSt.const _
    · exact fun _ => FSt.const _
    · exact fun _ => FSt.const _
    · exact fun _ => FSt.const _
    · exact fun _ => FSt.const _
    · exact fun _ => FSt.const _
    · exact fun _ => FSt.const _
    · exact fun _ => FSt.const _
    · exact fun _ => FSt.const _
    · exact fun _ => FSt.const _
    · exact fun _ => FSt.const _
    · exact fun _ => FSt.const _
    · exact fun _ => FSt.const _
    · exact fun _ => FSt.const _
    · exact fun _ => FSt.const _
    )
  have hf : ∀ W, SR w0 { w with drawn := w.drawn + 1 } W → C 1 W → J  W := fun  W hS hC  => (by exact fin  W (SR.at hw hS) hC )
  exact draw_phi2 (T := [18]) Ext (SR w0) C (lkF2 [(0, fun _ v _ => v = it8), (1, fun _ v _ => v = it12), (2, fun _ v _ => v = it8), (3, fun _ v _ => v = it12), (4, fun _ v _ => v = ct149), (5, fun _ v _ => v = ct150), (6, fun _ v _ => v = ct151), (7, fun _ v _ => v = it13), (8, fun _ v _ => v = ct153), (9, fun _ v _ => v = it8), (10, fun _ v _ => v = it12), (11, fun _ v _ => v = ct156), (12, fun _ v _ => v = ct157), (13, fun _ v _ => v = ct158), (14, fun _ v _ => v = ct159), (15, fun _ v _ => v = it14), (16, fun _ v _ => v = ct161), (17, fun _ v _ => v = ct162)]) (by kernel_rfl) (SR.refl w0) (fun _ _ _ => SR.trans) (fun _ _ => SR.ofExt) hst h0 (Eq.mp (by kernel_rfl) hall) (Eq.mp (by kernel_rfl) hf)

theorem h72_40 {ir4 it15 it22 : Value} {w : World} {J : VF 0} (w0 : World) (C : Nat → World → Prop) 
    (hw : Ext w0 w)  (h0 : C 0 { w with drawn := w.drawn + 1 })
    (h :     Quiet Try.prog (Stg w0 w C 0 0) (Instr.indexAt 118 ir4 it22) w fun t267 w =>
    Quiet Try.prog (Stg w0 w C 0 0) (Instr.loadAt 120 t267) w fun t268 w =>
    Quiet Try.prog (Stg w0 w C 0 0) (Instr.indexAt 123 it15 it22) w fun t270 w =>
    Quiet Try.prog (Stg w0 w C 0 0) (Instr.loadAt 120 t270) w fun t271 w =>
    Quiet Try.prog (Stg w0 w C 0 0) (binOp .add 120 t268 t271) w fun t272 w =>
    Quiet Try.prog (Stg w0 w C 0 0) (Instr.indexAt 118 ir4 it22) w fun t273 w =>
    (∀ W, At w0 w W → C 0 W → 
      Does Try.prog (Instr.storeAt 120 t273 t272) W fun _ w =>
      (At w0 W w ∧ C 1 w ∧ True ∧ True)
    ) ∧
    (∀ W, At w0 w W → C 1 W → J  W)) :
    DrawP Try.prog 305 (opsOf Try.f72 40) [4, 15, 22] [ir4, it15, it22] [] J w := by
  obtain ⟨ct267, y4, h⟩ := h
  obtain ⟨ct268, y5, h⟩ := h
  obtain ⟨ct270, y7, h⟩ := h
  obtain ⟨ct271, y8, h⟩ := h
  obtain ⟨ct272, y9, h⟩ := h
  obtain ⟨ct273, y10, h⟩ := h
  obtain ⟨o11, fin⟩ := h
  have hall : ∀ _ : Nat → Value,
    (∀ k : Nat, 0 ≤ k → k ≤ 0 → ∀ W, SR w0 { w with drawn := w.drawn + 1 } W → C k W → 
      (Ext W W ∧ C k W ∧ ir4 = ir4)
    ) ∧
    (∀ k : Nat, 0 ≤ k → k ≤ 0 → ∀ W, SR w0 { w with drawn := w.drawn + 1 } W → C k W → 
      (Ext W W ∧ C k W ∧ it22 = it22)
    ) ∧
    (∀ k : Nat, 0 ≤ k → k ≤ 0 → ∀ W, SR w0 { w with drawn := w.drawn + 1 } W → C k W → 
      (Ext W W ∧ C k W ∧ ir4 = ir4)
    ) ∧
    (∀ k : Nat, 0 ≤ k → k ≤ 0 → ∀ W, SR w0 { w with drawn := w.drawn + 1 } W → C k W → 
      (Ext W W ∧ C k W ∧ it22 = it22)
    ) ∧
    (∀ t265 t266 : Value, ∀ k : Nat, 0 ≤ k → k ≤ 0 → ∀ W, SR w0 { w with drawn := w.drawn + 1 } W → C k W → t265 = ir4 → t266 = it22 → 
      Does Try.prog (Instr.indexAt 118 t265 t266) W fun t267 w =>
      (Ext W w ∧ C k w ∧ t267 = ct267)
    ) ∧
    (∀ t267 : Value, ∀ k : Nat, 0 ≤ k → k ≤ 0 → ∀ W, SR w0 { w with drawn := w.drawn + 1 } W → C k W → t267 = ct267 → 
      Does Try.prog (Instr.loadAt 120 t267) W fun t268 w =>
      (Ext W w ∧ C k w ∧ t268 = ct268)
    ) ∧
    (∀ k : Nat, 0 ≤ k → k ≤ 0 → ∀ W, SR w0 { w with drawn := w.drawn + 1 } W → C k W → 
      (Ext W W ∧ C k W ∧ it22 = it22)
    ) ∧
    (∀ t269 : Value, ∀ k : Nat, 0 ≤ k → k ≤ 0 → ∀ W, SR w0 { w with drawn := w.drawn + 1 } W → C k W → t269 = it22 → 
      Does Try.prog (Instr.indexAt 123 it15 t269) W fun t270 w =>
      (Ext W w ∧ C k w ∧ t270 = ct270)
    ) ∧
    (∀ t270 : Value, ∀ k : Nat, 0 ≤ k → k ≤ 0 → ∀ W, SR w0 { w with drawn := w.drawn + 1 } W → C k W → t270 = ct270 → 
      Does Try.prog (Instr.loadAt 120 t270) W fun t271 w =>
      (Ext W w ∧ C k w ∧ t271 = ct271)
    ) ∧
    (∀ t268 t271 : Value, ∀ k : Nat, 0 ≤ k → k ≤ 0 → ∀ W, SR w0 { w with drawn := w.drawn + 1 } W → C k W → t268 = ct268 → t271 = ct271 → 
      Does Try.prog (binOp .add 120 t268 t271) W fun t272 w =>
      (Ext W w ∧ C k w ∧ t272 = ct272)
    ) ∧
    (∀ t263 t264 : Value, ∀ k : Nat, 0 ≤ k → k ≤ 0 → ∀ W, SR w0 { w with drawn := w.drawn + 1 } W → C k W → t263 = ir4 → t264 = it22 → 
      Does Try.prog (Instr.indexAt 118 t263 t264) W fun t273 w =>
      (Ext W w ∧ C k w ∧ t273 = ct273)
    ) ∧
    (∀ t273 t272 : Value, ∀ W, SR w0 { w with drawn := w.drawn + 1 } W → C 0 W → t273 = ct273 → t272 = ct272 → 
      Does Try.prog (Instr.storeAt 120 t273 t272) W fun _ w =>
      (SR w0 W w ∧ C 1 w ∧ True ∧ (∀ v : Value, v = ir4 → v = ir4) ∧ (∀ v : Value, v = it22 → v = it22) ∧ (∀ v : Value, v = ir4 → v = ir4) ∧ (∀ v : Value, v = it22 → v = it22) ∧ (∀ v : Value, v = ct267 → v = ct267) ∧ (∀ v : Value, v = ct268 → v = ct268) ∧ (∀ v : Value, v = it22 → v = it22) ∧ (∀ v : Value, v = ct270 → v = ct270) ∧ (∀ v : Value, v = ct271 → v = ct271) ∧ (t272 = ct272 → t272 = ct272) ∧ (t273 = ct273 → t273 = ct273) ∧ True)
    ) ∧ True := fun _ => ⟨
    fun  k hk1 hk2 W hS hC  => (by exact ⟨Ext.refl _, hC, rfl⟩),
    fun  k hk1 hk2 W hS hC  => (by exact ⟨Ext.refl _, hC, rfl⟩),
    fun  k hk1 hk2 W hS hC  => (by exact ⟨Ext.refl _, hC, rfl⟩),
    fun  k hk1 hk2 W hS hC  => (by exact ⟨Ext.refl _, hC, rfl⟩),
    fun t265 t266 k hk1 hk2 W hS hC ht265 ht266 => (by subst ht265; subst ht266; exact ⟨_, W, y4 W ⟨SR.at hw hS, k, hk1, hk2, hC⟩, Ext.refl _, hC, rfl⟩),
    fun t267 k hk1 hk2 W hS hC ht267 => (by subst ht267; exact ⟨_, W, y5 W ⟨SR.at hw hS, k, hk1, hk2, hC⟩, Ext.refl _, hC, rfl⟩),
    fun  k hk1 hk2 W hS hC  => (by exact ⟨Ext.refl _, hC, rfl⟩),
    fun t269 k hk1 hk2 W hS hC ht269 => (by subst ht269; exact ⟨_, W, y7 W ⟨SR.at hw hS, k, hk1, hk2, hC⟩, Ext.refl _, hC, rfl⟩),
    fun t270 k hk1 hk2 W hS hC ht270 => (by subst ht270; exact ⟨_, W, y8 W ⟨SR.at hw hS, k, hk1, hk2, hC⟩, Ext.refl _, hC, rfl⟩),
    fun t268 t271 k hk1 hk2 W hS hC ht268 ht271 => (by subst ht268; subst ht271; exact ⟨_, W, y9 W ⟨SR.at hw hS, k, hk1, hk2, hC⟩, Ext.refl _, hC, rfl⟩),
    fun t263 t264 k hk1 hk2 W hS hC ht263 ht264 => (by subst ht263; subst ht264; exact ⟨_, W, y10 W ⟨SR.at hw hS, k, hk1, hk2, hC⟩, Ext.refl _, hC, rfl⟩),
    fun t273 t272 W hS hC ht273 ht272 => (by subst ht273; subst ht272; exact Does.mono (o11  W (SR.at hw hS) hC ) fun _ _ h => ⟨SR.of h.1, h.2.1, h.2.2.1, fun _ h => h, fun _ h => h, fun _ h => h, fun _ h => h, fun _ h => h, fun _ h => h, fun _ h => h, fun _ h => h, fun _ h => h, fun h => h, fun h => h, trivial⟩),
    trivial⟩
  have hst := lkF2_st (S := Ext) (l := [(0, fun _ v _ => v = ir4), (1, fun _ v _ => v = it22), (2, fun _ v _ => v = ir4), (3, fun _ v _ => v = it22), (4, fun _ v _ => v = ct267), (5, fun _ v _ => v = ct268), (6, fun _ v _ => v = it22), (7, fun _ v _ => v = ct270), (8, fun _ v _ => v = ct271), (9, fun _ v _ => v = ct272), (10, fun _ v _ => v = ct273)]) (fun p hp => by
    simp only [List.mem_cons, List.not_mem_nil, or_false] at hp
    rcases hp with rfl | rfl | rfl | rfl | rfl | rfl | rfl | rfl | rfl | rfl | rfl
    · exact fun _ => FSt.const _
    · exact fun _ => FSt.const _
    · exact fun _ => FSt.const _
    · exact fun _ => FSt.const _
    · exact fun _ => FSt.const _
    · exact fun _ => FSt.const _
    · exact fun _ => FSt.const _
    · exact fun _ => FSt.const _
    · exact fun _ => FSt.const _
    · exact fun _ => FSt.const _
    · exact fun _ => FSt.const _
    )
  have hf : ∀ W, SR w0 { w with drawn := w.drawn + 1 } W → C 1 W → J  W := fun  W hS hC  => (by exact fin  W (SR.at hw hS) hC )
  exact draw_phi2 (T := [11]) Ext (SR w0) C (lkF2 [(0, fun _ v _ => v = ir4), (1, fun _ v _ => v = it22), (2, fun _ v _ => v = ir4), (3, fun _ v _ => v = it22), (4, fun _ v _ => v = ct267), (5, fun _ v _ => v = ct268), (6, fun _ v _ => v = it22), (7, fun _ v _ => v = ct270), (8, fun _ v _ => v = ct271), (9, fun _ v _ => v = ct272), (10, fun _ v _ => v = ct273)]) (by kernel_rfl) (SR.refl w0) (fun _ _ _ => SR.trans) (fun _ _ => SR.ofExt) hst h0 (Eq.mp (by kernel_rfl) hall) (Eq.mp (by kernel_rfl) hf)

theorem h72_45 {ir4 it23 it24 : Value} {w : World} {J : VF 1} (w0 : World) (C : Nat → World → Prop) (F24 F25 : Nat → Value → World → Prop) 
    (hw : Ext w0 w) (s24 : ∀ k, FSt Ext (F24 k)) (s25 : ∀ k, FSt Ext (F25 k)) (h0 : C 0 { w with drawn := w.drawn + 1 })
    (h :     Quiet Try.prog (Stg w0 w C 0 1) (Instr.indexAt 118 ir4 it24) w fun t281 w =>
    Quiet Try.prog (Stg w0 w C 0 1) (Instr.loadAt 120 t281) w fun t282 w =>
    Quiet Try.prog (Stg w0 w C 0 1) (binOp .shr 120 t282 (Go.Value.int Go.IntKind.u64 24)) w fun t283 w =>
    Quiet Try.prog (Stg w0 w C 0 1) (convert 120 5 t283) w fun t284 w =>
    Quiet Try.prog (Stg w0 w C 0 1) (Instr.indexAt 118 ir4 it24) w fun t287 w =>
    Quiet Try.prog (Stg w0 w C 0 1) (Instr.loadAt 120 t287) w fun t288 w =>
    Quiet Try.prog (Stg w0 w C 0 1) (binOp .shr 120 t288 (Go.Value.int Go.IntKind.u64 16)) w fun t289 w =>
    Quiet Try.prog (Stg w0 w C 0 1) (convert 120 5 t289) w fun t290 w =>
    Quiet Try.prog (Stg w0 w C 0 1) (Instr.indexAt 118 ir4 it24) w fun t293 w =>
    Quiet Try.prog (Stg w0 w C 0 1) (Instr.loadAt 120 t293) w fun t294 w =>
    Quiet Try.prog (Stg w0 w C 0 1) (binOp .shr 120 t294 (Go.Value.int Go.IntKind.u64 8)) w fun t295 w =>
    Quiet Try.prog (Stg w0 w C 0 1) (convert 120 5 t295) w fun t296 w =>
    Quiet Try.prog (Stg w0 w C 0 1) (Instr.indexAt 118 ir4 it24) w fun t299 w =>
    Quiet Try.prog (Stg w0 w C 0 1) (Instr.loadAt 120 t299) w fun t300 w =>
    Quiet Try.prog (Stg w0 w C 0 1) (convert 120 5 t300) w fun t301 w =>
    (∀ W, At w0 w W → C 0 W → 
      Does Try.prog (Instr.buildSlice 34 4 #[(0, t284), (1, t290), (2, t296), (3, t301)]) W fun t302 w =>
      (Ext W w ∧ C 0 w ∧ F24 0 t302 w)
    ) ∧
    (∀ t302 : Value, ∀ W, At w0 w W → C 0 W → F24 0 t302 W → 
      Does Try.prog (Builtin.append_ #[34, 34] 34 #[it23, t302]) W fun t303 w =>
      (At w0 W w ∧ C 1 w ∧ F25 1 t303 w ∧ (F24 0 t302 W → F24 1 t302 w) ∧ True)
    ) ∧
    (∀ t23 : Value, ∀ W, At w0 w W → C 1 W → F25 1 t23 W → J t23 W)) :
    DrawP Try.prog 305 (opsOf Try.f72 45) [4, 23, 24] [ir4, it23, it24] [23] J w := by
  obtain ⟨ct281, y3, h⟩ := h
  obtain ⟨ct282, y4, h⟩ := h
  obtain ⟨ct283, y5, h⟩ := h
  obtain ⟨ct284, y6, h⟩ := h
  obtain ⟨ct287, y9, h⟩ := h
  obtain ⟨ct288, y10, h⟩ := h
  obtain ⟨ct289, y11, h⟩ := h
  obtain ⟨ct290, y12, h⟩ := h
  obtain ⟨ct293, y15, h⟩ := h
  obtain ⟨ct294, y16, h⟩ := h
  obtain ⟨ct295, y17, h⟩ := h
  obtain ⟨ct296, y18, h⟩ := h
  obtain ⟨ct299, y21, h⟩ := h
  obtain ⟨ct300, y22, h⟩ := h
  obtain ⟨ct301, y23, h⟩ := h
  obtain ⟨o24, o25, fin⟩ := h
  have hall : ∀ _ : Nat → Value,
    (∀ k : Nat, 0 ≤ k → k ≤ 0 → ∀ W, SR w0 { w with drawn := w.drawn + 1 } W → C k W → 
      (Ext W W ∧ C k W ∧ it23 = it23)
    ) ∧
    (∀ k : Nat, 0 ≤ k → k ≤ 1 → ∀ W, SR w0 { w with drawn := w.drawn + 1 } W → C k W → 
      (Ext W W ∧ C k W ∧ ir4 = ir4)
    ) ∧
    (∀ k : Nat, 0 ≤ k → k ≤ 1 → ∀ W, SR w0 { w with drawn := w.drawn + 1 } W → C k W → 
      (Ext W W ∧ C k W ∧ it24 = it24)
    ) ∧
    (∀ t279 t280 : Value, ∀ k : Nat, 0 ≤ k → k ≤ 1 → ∀ W, SR w0 { w with drawn := w.drawn + 1 } W → C k W → t279 = ir4 → t280 = it24 → 
      Does Try.prog (Instr.indexAt 118 t279 t280) W fun t281 w =>
      (Ext W w ∧ C k w ∧ t281 = ct281)
    ) ∧
    (∀ t281 : Value, ∀ k : Nat, 0 ≤ k → k ≤ 1 → ∀ W, SR w0 { w with drawn := w.drawn + 1 } W → C k W → t281 = ct281 → 
      Does Try.prog (Instr.loadAt 120 t281) W fun t282 w =>
      (Ext W w ∧ C k w ∧ t282 = ct282)
    ) ∧
    (∀ t282 : Value, ∀ k : Nat, 0 ≤ k → k ≤ 1 → ∀ W, SR w0 { w with drawn := w.drawn + 1 } W → C k W → t282 = ct282 → 
      Does Try.prog (binOp .shr 120 t282 (Go.Value.int Go.IntKind.u64 24)) W fun t283 w =>
      (Ext W w ∧ C k w ∧ t283 = ct283)
    ) ∧
    (∀ t283 : Value, ∀ k : Nat, 0 ≤ k → k ≤ 1 → ∀ W, SR w0 { w with drawn := w.drawn + 1 } W → C k W → t283 = ct283 → 
      Does Try.prog (convert 120 5 t283) W fun t284 w =>
      (Ext W w ∧ C k w ∧ t284 = ct284)
    ) ∧
    (∀ k : Nat, 0 ≤ k → k ≤ 1 → ∀ W, SR w0 { w with drawn := w.drawn + 1 } W → C k W → 
      (Ext W W ∧ C k W ∧ ir4 = ir4)
    ) ∧
    (∀ k : Nat, 0 ≤ k → k ≤ 1 → ∀ W, SR w0 { w with drawn := w.drawn + 1 } W → C k W → 
      (Ext W W ∧ C k W ∧ it24 = it24)
    ) ∧
    (∀ t285 t286 : Value, ∀ k : Nat, 0 ≤ k → k ≤ 1 → ∀ W, SR w0 { w with drawn := w.drawn + 1 } W → C k W → t285 = ir4 → t286 = it24 → 
      Does Try.prog (Instr.indexAt 118 t285 t286) W fun t287 w =>
      (Ext W w ∧ C k w ∧ t287 = ct287)
    ) ∧
    (∀ t287 : Value, ∀ k : Nat, 0 ≤ k → k ≤ 1 → ∀ W, SR w0 { w with drawn := w.drawn + 1 } W → C k W → t287 = ct287 → 
      Does Try.prog (Instr.loadAt 120 t287) W fun t288 w =>
      (Ext W w ∧ C k w ∧ t288 = ct288)
    ) ∧
    (∀ t288 : Value, ∀ k : Nat, 0 ≤ k → k ≤ 1 → ∀ W, SR w0 { w with drawn := w.drawn + 1 } W → C k W → t288 = ct288 → 
      Does Try.prog (binOp .shr 120 t288 (Go.Value.int Go.IntKind.u64 16)) W fun t289 w =>
      (Ext W w ∧ C k w ∧ t289 = ct289)
    ) ∧
    (∀ t289 : Value, ∀ k : Nat, 0 ≤ k → k ≤ 1 → ∀ W, SR w0 { w with drawn := w.drawn + 1 } W → C k W → t289 = ct289 → 
      Does Try.prog (convert 120 5 t289) W fun t290 w =>
      (Ext W w ∧ C k w ∧ t290 = ct290)
    ) ∧
    (∀ k : Nat, 0 ≤ k → k ≤ 1 → ∀ W, SR w0 { w with drawn := w.drawn + 1 } W → C k W → 
      (Ext W W ∧ C k W ∧ ir4 = ir4)
    ) ∧
    (∀ k : Nat, 0 ≤ k → k ≤ 1 → ∀ W, SR w0 { w with drawn := w.drawn + 1 } W → C k W → 
      (Ext W W ∧ C k W ∧ it24 = it24)
    ) ∧
    (∀ t291 t292 : Value, ∀ k : Nat, 0 ≤ k → k ≤ 1 → ∀ W, SR w0 { w with drawn := w.drawn + 1 } W → C k W → t291 = ir4 → t292 = it24 → 
      Does Try.prog (Instr.indexAt 118 t291 t292) W fun t293 w =>
      (Ext W w ∧ C k w ∧ t293 = ct293)
    ) ∧
    (∀ t293 : Value, ∀ k : Nat, 0 ≤ k → k ≤ 1 → ∀ W, SR w0 { w with drawn := w.drawn + 1 } W → C k W → t293 = ct293 → 
      Does Try.prog (Instr.loadAt 120 t293) W fun t294 w =>
      (Ext W w ∧ C k w ∧ t294 = ct294)
    ) ∧
    (∀ t294 : Value, ∀ k : Nat, 0 ≤ k → k ≤ 1 → ∀ W, SR w0 { w with drawn := w.drawn + 1 } W → C k W → t294 = ct294 → 
      Does Try.prog (binOp .shr 120 t294 (Go.Value.int Go.IntKind.u64 8)) W fun t295 w =>
      (Ext W w ∧ C k w ∧ t295 = ct295)
    ) ∧
    (∀ t295 : Value, ∀ k : Nat, 0 ≤ k → k ≤ 1 → ∀ W, SR w0 { w with drawn := w.drawn + 1 } W → C k W → t295 = ct295 → 
      Does Try.prog (convert 120 5 t295) W fun t296 w =>
      (Ext W w ∧ C k w ∧ t296 = ct296)
    ) ∧
    (∀ k : Nat, 0 ≤ k → k ≤ 1 → ∀ W, SR w0 { w with drawn := w.drawn + 1 } W → C k W → 
      (Ext W W ∧ C k W ∧ ir4 = ir4)
    ) ∧
    (∀ k : Nat, 0 ≤ k → k ≤ 1 → ∀ W, SR w0 { w with drawn := w.drawn + 1 } W → C k W → 
      (Ext W W ∧ C k W ∧ it24 = it24)
    ) ∧
    (∀ t297 t298 : Value, ∀ k : Nat, 0 ≤ k → k ≤ 1 → ∀ W, SR w0 { w with drawn := w.drawn + 1 } W → C k W → t297 = ir4 → t298 = it24 → 
      Does Try.prog (Instr.indexAt 118 t297 t298) W fun t299 w =>
      (Ext W w ∧ C k w ∧ t299 = ct299)
    ) ∧
    (∀ t299 : Value, ∀ k : Nat, 0 ≤ k → k ≤ 1 → ∀ W, SR w0 { w with drawn := w.drawn + 1 } W → C k W → t299 = ct299 → 
      Does Try.prog (Instr.loadAt 120 t299) W fun t300 w =>
      (Ext W w ∧ C k w ∧ t300 = ct300)
    ) ∧
    (∀ t300 : Value, ∀ k : Nat, 0 ≤ k → k ≤ 1 → ∀ W, SR w0 { w with drawn := w.drawn + 1 } W → C k W → t300 = ct300 → 
      Does Try.prog (convert 120 5 t300) W fun t301 w =>
      (Ext W w ∧ C k w ∧ t301 = ct301)
    ) ∧
    (∀ t284 t290 t296 t301 : Value, ∀ k : Nat, 0 ≤ k → k ≤ 0 → ∀ W, SR w0 { w with drawn := w.drawn + 1 } W → C k W → t284 = ct284 → t290 = ct290 → t296 = ct296 → t301 = ct301 → 
      Does Try.prog (Instr.buildSlice 34 4 #[(0, t284), (1, t290), (2, t296), (3, t301)]) W fun t302 w =>
      (Ext W w ∧ C k w ∧ F24 k t302 w)
    ) ∧
    (∀ t278 t302 : Value, ∀ W, SR w0 { w with drawn := w.drawn + 1 } W → C 0 W → t278 = it23 → F24 0 t302 W → 
      Does Try.prog (Builtin.append_ #[34, 34] 34 #[t278, t302]) W fun t303 w =>
      (SR w0 W w ∧ C 1 w ∧ F25 1 t303 w ∧ (t278 = it23 → t278 = it23) ∧ (∀ v : Value, v = ir4 → v = ir4) ∧ (∀ v : Value, v = it24 → v = it24) ∧ (∀ v : Value, v = ct281 → v = ct281) ∧ (∀ v : Value, v = ct282 → v = ct282) ∧ (∀ v : Value, v = ct283 → v = ct283) ∧ (∀ v : Value, v = ct284 → v = ct284) ∧ (∀ v : Value, v = ir4 → v = ir4) ∧ (∀ v : Value, v = it24 → v = it24) ∧ (∀ v : Value, v = ct287 → v = ct287) ∧ (∀ v : Value, v = ct288 → v = ct288) ∧ (∀ v : Value, v = ct289 → v = ct289) ∧ (∀ v : Value, v = ct290 → v = ct290) ∧ (∀ v : Value, v = ir4 → v = ir4) ∧ (∀ v : Value, v = it24 → v = it24) ∧ (∀ v : Value, v = ct293 → v = ct293) ∧ (∀ v : Value, v = ct294 → v = ct294) ∧ (∀ v : Value, v = ct295 → v = ct295) ∧ (∀ v : Value, v = ct296 → v = ct296) ∧ (∀ v : Value, v = ir4 → v = ir4) ∧ (∀ v : Value, v = it24 → v = it24) ∧ (∀ v : Value, v = ct299 → v = ct299) ∧ (∀ v : Value, v = ct300 → v = ct300) ∧ (∀ v : Value, v = ct301 → v = ct301) ∧ (F24 0 t302 W → F24 1 t302 w) ∧ True)
    ) ∧
    (∀ t303 : Value, ∀ k : Nat, 1 ≤ k → k ≤ 1 → ∀ W, SR w0 { w with drawn := w.drawn + 1 } W → C k W → F25 k t303 W → 
      (Ext W W ∧ C k W ∧ F25 k t303 W)
    ) ∧ True := fun _ => ⟨
    fun  k hk1 hk2 W hS hC  => (by exact ⟨Ext.refl _, hC, rfl⟩),
    fun  k hk1 hk2 W hS hC  => (by exact ⟨Ext.refl _, hC, rfl⟩),
    fun  k hk1 hk2 W hS hC  => (by exact ⟨Ext.refl _, hC, rfl⟩),
    fun t279 t280 k hk1 hk2 W hS hC ht279 ht280 => (by subst ht279; subst ht280; exact ⟨_, W, y3 W ⟨SR.at hw hS, k, hk1, hk2, hC⟩, Ext.refl _, hC, rfl⟩),
    fun t281 k hk1 hk2 W hS hC ht281 => (by subst ht281; exact ⟨_, W, y4 W ⟨SR.at hw hS, k, hk1, hk2, hC⟩, Ext.refl _, hC, rfl⟩),
    fun t282 k hk1 hk2 W hS hC ht282 => (by subst ht282; exact ⟨_, W, y5 W ⟨SR.at hw hS, k, hk1, hk2, hC⟩, Ext.refl _, hC, rfl⟩),
    fun t283 k hk1 hk2 W hS hC ht283 => (by subst ht283; exact ⟨_, W, y6 W ⟨SR.at hw hS, k, hk1, hk2, hC⟩, Ext.refl _, hC, rfl⟩),
    fun  k hk1 hk2 W hS hC  => (by exact ⟨Ext.refl _, hC, rfl⟩),
    fun  k hk1 hk2 W hS hC  => (by exact ⟨Ext.refl _, hC, rfl⟩),
    fun t285 t286 k hk1 hk2 W hS hC ht285 ht286 => (by subst ht285; subst ht286; exact ⟨_, W, y9 W ⟨SR.at hw hS, k, hk1, hk2, hC⟩, Ext.refl _, hC, rfl⟩),
    fun t287 k hk1 hk2 W hS hC ht287 => (by subst ht287; exact ⟨_, W, y10 W ⟨SR.at hw hS, k, hk1, hk2, hC⟩, Ext.refl _, hC, rfl⟩),
    fun t288 k hk1 hk2 W hS hC ht288 => (by subst ht288; exact ⟨_, W, y11 W ⟨SR.at hw hS, k, hk1, hk2, hC⟩, Ext.refl _, hC, rfl⟩),
    fun t289 k hk1 hk2 W hS hC ht289 => (by subst ht289; exact ⟨_, W, y12 W ⟨SR.at hw hS, k, hk1, hk2, hC⟩, Ext.refl _, hC, rfl⟩),
    fun  k hk1 hk2 W hS hC  => (by exact ⟨Ext.refl _, hC, rfl⟩),
    fun  k hk1 hk2 W hS hC  => (by exact ⟨Ext.refl _, hC, rfl⟩),
    fun t291 t292 k hk1 hk2 W hS hC ht291 ht292 => (by subst ht291; subst ht292; exact ⟨_, W, y15 W ⟨SR.at hw hS, k, hk1, hk2, hC⟩, Ext.refl _, hC, rfl⟩),
    fun t293 k hk1 hk2 W hS hC ht293 => (by subst ht293; exact ⟨_, W, y16 W ⟨SR.at hw hS, k, hk1, hk2, hC⟩, Ext.refl _, hC, rfl⟩),
    fun t294 k hk1 hk2 W hS hC ht294 => (by subst ht294; exact ⟨_, W, y17 W ⟨SR.at hw hS, k, hk1, hk2, hC⟩, Ext.refl _, hC, rfl⟩),
    fun t295 k hk1 hk2 W hS hC ht295 => (by subst ht295; exact ⟨_, W, y18 W ⟨SR.at hw hS, k, hk1, hk2, hC⟩, Ext.refl _, hC, rfl⟩),
    fun  k hk1 hk2 W hS hC  => (by exact ⟨Ext.refl _, hC, rfl⟩),
    fun  k hk1 hk2 W hS hC  => (by exact ⟨Ext.refl _, hC, rfl⟩),
    fun t297 t298 k hk1 hk2 W hS hC ht297 ht298 => (by subst ht297; subst ht298; exact ⟨_, W, y21 W ⟨SR.at hw hS, k, hk1, hk2, hC⟩, Ext.refl _, hC, rfl⟩),
    fun t299 k hk1 hk2 W hS hC ht299 => (by subst ht299; exact ⟨_, W, y22 W ⟨SR.at hw hS, k, hk1, hk2, hC⟩, Ext.refl _, hC, rfl⟩),
    fun t300 k hk1 hk2 W hS hC ht300 => (by subst ht300; exact ⟨_, W, y23 W ⟨SR.at hw hS, k, hk1, hk2, hC⟩, Ext.refl _, hC, rfl⟩),
    fun t284 t290 t296 t301 k hk1 hk2 W hS hC ht284 ht290 ht296 ht301 => (by obtain rfl : k = 0 := (by omega); subst ht284; subst ht290; subst ht296; subst ht301; exact o24  W (SR.at hw hS) hC ),
    fun t278 t302 W hS hC ht278 ht302 => (by subst ht278; exact Does.mono (o25 t302 W (SR.at hw hS) hC ht302) fun _ _ h => ⟨SR.of h.1, h.2.1, h.2.2.1, fun h => h, fun _ h => h, fun _ h => h, fun _ h => h, fun _ h => h, fun _ h => h, fun _ h => h, fun _ h => h, fun _ h => h, fun _ h => h, fun _ h => h, fun _ h => h, fun _ h => h, fun _ h => h, fun _ h => h, fun _ h => h, fun _ h => h, fun _ h => h, fun _ h => h, fun _ h => h, fun _ h => h, fun _ h => h, fun _ h => h, fun _ h => h, h.2.2.2.1, trivial⟩),
    fun t303 k hk1 hk2 W hS hC ht303 => ⟨Ext.refl _, hC, ht303⟩,
    trivial⟩
  have hst := lkF2_st (S := Ext) (l := [(0, fun _ v _ => v = it23), (1, fun _ v _ => v = ir4), (2, fun _ v _ => v = it24), (3, fun _ v _ => v = ct281), (4, fun _ v _ => v = ct282), (5, fun _ v _ => v = ct283), (6, fun _ v _ => v = ct284), (7, fun _ v _ => v = ir4), (8, fun _ v _ => v = it24), (9, fun _ v _ => v = ct287), (10, fun _ v _ => v = ct288), (11, fun _ v _ => v = ct289), (12, fun _ v _ => v = ct290), (13, fun _ v _ => v = ir4), (14, fun _ v _ => v = it24), (15, fun _ v _ => v = ct293), (16, fun _ v _ => v = ct294), (17, fun _ v _ => v = ct295), (18, fun _ v _ => v = ct296), (19, fun _ v _ => v = ir4), (20, fun _ v _ => v = it24), (21, fun _ v _ => v = ct299), (22, fun _ v _ => v = ct300), (23, fun _ v _ => v = ct301), (24, F24), (25, F25), (26, F25)]) (fun p hp => by
    simp only [List.mem_cons, List.not_mem_nil, or_false] at hp
    rcases hp with rfl | rfl | rfl | rfl | rfl | rfl | rfl | rfl | rfl | rfl | rfl | rfl | rfl | rfl | rfl | rfl | rfl | rfl | rfl | rfl | rfl | rfl | rfl | rfl | rfl | rfl | rfl
    · exact fun _ => FSt.const _
    · exact fun _ => FSt.const _
    · exact fun _ => FSt.const _
    · exact fun _ => FSt.const _
    · exact fun _ => FSt.const _
    · exact fun _ => FSt.const _
    · exact fun _ => FSt.const _
    · exact fun _ => FSt.const _
    · exact fun _ => FSt.const _
    · exact fun _ => FSt.const _
    · exact fun _ => FSt.const _
    · exact fun _ => FSt.const _
    · exact fun _ => FSt.const _
    · exact fun _ => FSt.const _
    · exact fun _ => FSt.const _
    · exact fun _ => FSt.const _
    · exact fun _ => FSt.const _
    · exact fun _ => FSt.const _
    · exact fun _ => FSt.const _
    · exact fun _ => FSt.const _
    · exact fun _ => FSt.const _
    · exact fun _ => FSt.const _
    · exact fun _ => FSt.const _
    · exact fun _ => FSt.const _
    · exact s24
    · exact s25
    · exact s25
    )
  have hf : ∀ t23 : Value, ∀ W, SR w0 { w with drawn := w.drawn + 1 } W → C 1 W → F25 1 t23 W → J t23 W := fun t23 W hS hC ht23 => (by exact fin t23 W (SR.at hw hS) hC ht23)
  exact draw_phi2 (T := [25]) Ext (SR w0) C (lkF2 [(0, fun _ v _ => v = it23), (1, fun _ v _ => v = ir4), (2, fun _ v _ => v = it24), (3, fun _ v _ => v = ct281), (4, fun _ v _ => v = ct282), (5, fun _ v _ => v = ct283), (6, fun _ v _ => v = ct284), (7, fun _ v _ => v = ir4), (8, fun _ v _ => v = it24), (9, fun _ v _ => v = ct287), (10, fun _ v _ => v = ct288), (11, fun _ v _ => v = ct289), (12, fun _ v _ => v = ct290), (13, fun _ v _ => v = ir4), (14, fun _ v _ => v = it24), (15, fun _ v _ => v = ct293), (16, fun _ v _ => v = ct294), (17, fun _ v _ => v = ct295), (18, fun _ v _ => v = ct296), (19, fun _ v _ => v = ir4), (20, fun _ v _ => v = it24), (21, fun _ v _ => v = ct299), (22, fun _ v _ => v = ct300), (23, fun _ v _ => v = ct301), (24, F24), (25, F25), (26, F25)]) (by kernel_rfl) (SR.refl w0) (fun _ _ _ => SR.trans) (fun _ _ => SR.ofExt) hst h0 (Eq.mp (by kernel_rfl) hall) (Eq.mp (by kernel_rfl) hf)

end Go.Proofs.Ytcncgkkilgmphaa
