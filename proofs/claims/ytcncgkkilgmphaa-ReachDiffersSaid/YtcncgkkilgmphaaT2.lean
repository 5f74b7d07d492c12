import Derived.Test.YtcncgkkilgmphaaVc
import Derived.Test.YtcncgkkilgmphaaProg
set_option linter.unusedVariables false
set_option maxRecDepth 100000
namespace Go.Proofs.Ytcncgkkilgmphaa
open Go
theorem mixed : Try.prog.follows .mixedOrders = true := by kernel_rfl
/-- marline/marlaw12.ReachClosed -/
def V3 (R : Value → World → Prop) (a0 a1 : Value) (w : World) : Prop :=
  Call Try.prog 6 #[] w fun t18 w =>
  Does Try.prog (Op.unary Go.UnOp.not t18) w fun t19 w =>
  CondP t19 (
    R (Go.Value.bool false) w
  ) (
    Call Try.prog 7 #[a0] w fun t21 w =>
    Does Try.prog (Op.unary Go.UnOp.not t21) w fun t22 w =>
    JoinP 1 (fun j1 => GuardP t22 false (
      Call Try.prog 8 #[a1] w fun t25 w =>
      Does Try.prog (Op.unary Go.UnOp.not t25) w fun t26 w =>
      j1 t26 w
    ) (j1 undef w))
    (fun t26 w => ∀ _ : Nat → Value,
    PickP t22 (Go.Value.bool true) t26 fun t27 =>
    CondP t27 (
      Call Try.prog 6 #[] w fun t28 w =>
      R t28 w
    ) (
      Call Try.prog 9 #[a0, (Go.Value.bool false)] w fun t30 w =>
      Call Try.prog 10 #[t30, a1, (Go.Value.int Go.IntKind.i64 2000)] w fun t34 w =>
      Does Try.prog (Instr.extract t34 0) w fun t35 w =>
      Does Try.prog (Instr.extract t34 1) w fun t36 w =>
      Does Try.prog (Instr.extract t34 2) w fun t37 w =>
      Does Try.prog (eqE .neq 29 (Go.Operand.tmp 38) (Go.Operand.const (Go.Value.int Go.IntKind.i64 0)) t37 (Go.Value.int Go.IntKind.i64 0)) w fun t39 w =>
      CondP t39 (
        R (Go.Value.bool false) w
      ) (
        Call Try.prog 11 #[t35] w fun t41 w =>
        Does Try.prog (Builtin.append_ #[23, 23] 23 #[t41, t36]) w fun t43 w =>
        Call Try.prog 12 #[t35] w fun t45 w =>
        Does Try.prog (Op.unary Go.UnOp.not t45) w fun t46 w =>
        JoinP 1 (fun j2 => GuardP t46 false (
          Call Try.prog 12 #[t36] w fun t49 w =>
          Does Try.prog (Op.unary Go.UnOp.not t49) w fun t50 w =>
          j2 t50 w
        ) (j2 undef w))
        (fun t50 w => ∀ _ : Nat → Value,
        PickP t46 (Go.Value.bool true) t50 fun t51 =>
        JoinP 1 (fun j3 => GuardP t51 false (
          Call Try.prog 13 #[t43] w fun t54 w =>
          Does Try.prog (Builtin.len_ #[23] 3 #[t54]) w fun t55 w =>
          Does Try.prog (Builtin.len_ #[23] 3 #[t43]) w fun t57 w =>
          Does Try.prog (eqE .neq 3 (Go.Operand.tmp 55) (Go.Operand.tmp 57) t55 t57) w fun t58 w =>
          j3 t58 w
        ) (j3 undef w))
        (fun t58 w => ∀ _ : Nat → Value,
        PickP t51 (Go.Value.bool true) t58 fun t59 =>
        CondP t59 (
          R (Go.Value.bool false) w
        ) (
          Rounds 1 (fun next4 t10 w => ∀ _ : Nat → Value,
            Does Try.prog (Builtin.len_ #[23] 3 #[a1]) w fun t62 w =>
            Does Try.prog (binOp .lss 3 t10 t62) w fun t63 w =>
            CondP t63 (
              Does Try.prog (Instr.indexAt 23 a1 t10) w fun t69 w =>
              Does Try.prog (Instr.loadAt 9 t69) w fun t70 w =>
              Call Try.prog 14 #[t43, t70] w fun t71 w =>
              Does Try.prog (Op.unary Go.UnOp.not t71) w fun t72 w =>
              CondP t72 (
                R (Go.Value.bool false) w
              ) (
                Does Try.prog (binOp .add 3 t10 (Go.Value.int Go.IntKind.i64 1)) w fun t65 w =>
                next4 t65 w
              )
            ) (
              Rounds 1 (fun next5 t11 w => ∀ _ : Nat → Value,
                Does Try.prog (Builtin.len_ #[23] 3 #[t43]) w fun t75 w =>
                Does Try.prog (binOp .lss 3 t11 t75) w fun t76 w =>
                CondP t76 (
                  Does Try.prog (Instr.indexAt 23 t43 t11) w fun t83 w =>
                  Does Try.prog (Instr.loadAt 9 t83) w fun t84 w =>
                  CallV Try.prog t30 #[t84] w fun t85 w =>
                  Does Try.prog (Instr.extract t85 0) w fun t86 w =>
                  Does Try.prog (Instr.extract t85 1) w fun t87 w =>
                  Call Try.prog 15 #[t86] w fun t90 w =>
                  Does Try.prog (Instr.extract t90 0) w fun t91 w =>
                  Does Try.prog (Instr.extract t90 1) w fun t92 w =>
                  Does Try.prog (Instr.alloc 38 true (.tuple #[])) w fun t14 w =>
                  Does Try.prog (Instr.storeAt 38 t14 t91) w fun _ w =>
                  Does Try.prog (Instr.indexAt 23 t43 t11) w fun t96 w =>
                  Does Try.prog (Instr.loadAt 9 t96) w fun t97 w =>
                  Call Try.prog 14 #[t35, t97] w fun t98 w =>
                  JoinP 1 (fun j6 => GuardP t87 true (
                    Does Try.prog (eqE .eql 29 (Go.Operand.tmp 101) (Go.Operand.const (Go.Value.int Go.IntKind.i64 0)) t92 (Go.Value.int Go.IntKind.i64 0)) w fun t102 w =>
                    j6 t102 w
                  ) (j6 undef w))
                  (fun t102 w => ∀ _ : Nat → Value,
                  PickP t87 t102 (Go.Value.bool false) fun t103 =>
                  Does Try.prog (eqE .neq 4 (Go.Operand.tmp 98) (Go.Operand.tmp 103) t98 t103) w fun t104 w =>
                  CondP t104 (
                    R (Go.Value.bool false) w
                  ) (
                    Does Try.prog (Instr.loadAt 38 t14) w fun t105 w =>
                    Call Try.prog 16 #[t105] w fun t106 w =>
                    Rounds 1 (fun next7 t17 w => ∀ _ : Nat → Value,
                      Does Try.prog (Builtin.len_ #[23] 3 #[t106]) w fun t109 w =>
                      Does Try.prog (binOp .lss 3 t17 t109) w fun t110 w =>
                      JoinP 1 (fun j8 => GuardP t110 true (
                        Does Try.prog (Instr.indexAt 23 t43 t11) w fun t115 w =>
                        Does Try.prog (Instr.loadAt 9 t115) w fun t116 w =>
                        Call Try.prog 14 #[t35, t116] w fun t117 w =>
                        j8 t117 w
                      ) (j8 undef w))
                      (fun t117 w => ∀ _ : Nat → Value,
                      PickP t110 t117 (Go.Value.bool false) fun t118 =>
                      CondP t118 (
                        Does Try.prog (Instr.indexAt 23 t106 t17) w fun t124 w =>
                        Does Try.prog (Instr.loadAt 9 t124) w fun t125 w =>
                        Call Try.prog 14 #[t43, t125] w fun t126 w =>
                        Does Try.prog (Op.unary Go.UnOp.not t126) w fun t127 w =>
                        CondP t127 (
                          R (Go.Value.bool false) w
                        ) (
                          Does Try.prog (binOp .add 3 t17 (Go.Value.int Go.IntKind.i64 1)) w fun t120 w =>
                          next7 t120 w
                        )
                      ) (
                        Does Try.prog (binOp .add 3 t11 (Go.Value.int Go.IntKind.i64 1)) w fun t78 w =>
                        next5 t78 w
                      )
                      )
                    ) (Go.Value.int Go.IntKind.i64 0) w
                  )
                  )
                ) (
                  Call Try.prog 6 #[] w fun t128 w =>
                  JoinP 1 (fun j9 => GuardP t128 true (
                    Call Try.prog 17 #[t30, a1, (Go.Value.int Go.IntKind.i64 2000)] w fun t132 w =>
                    Does Try.prog (Builtin.len_ #[23] 3 #[t36]) w fun t134 w =>
                    Does Try.prog (eqE .eql 3 (Go.Operand.tmp 134) (Go.Operand.const (Go.Value.int Go.IntKind.i64 0)) t134 (Go.Value.int Go.IntKind.i64 0)) w fun t135 w =>
                    Does Try.prog (eqE .eql 4 (Go.Operand.tmp 132) (Go.Operand.tmp 135) t132 t135) w fun t136 w =>
                    j9 t136 w
                  ) (j9 undef w))
                  (fun t136 w => ∀ _ : Nat → Value,
                  PickP t128 t136 (Go.Value.bool false) fun t137 =>
                  R t137 w
                  )
                )
              ) (Go.Value.int Go.IntKind.i64 0) w
            )
          ) (Go.Value.int Go.IntKind.i64 0) w
        )
        )
        )
      )
    )
    )
  )
theorem has3 : hasBody Try.prog 3 = true := by kernel_rfl
theorem vc3 {R : Value → World → Prop} {a0 a1 : Value} {w : World} (h : V3 R a0 a1 w) : Call Try.prog 3 #[a0, a1] w R :=
  vc_of (args := [a0, a1]) 138 ⟨lk [(13, [10]), (18, [11]), (26, [17])], lkO [], lk [], lk []⟩ Try.func3 rfl Try.ntmps3 rfl has3 mixed (Eq.mp (by kernel_rfl) h)

/-- marline/marlaw11.DagAsks -/
def V4 (R : Value → World → Prop) (a0 a1 a2 : Value) (w : World) : Prop :=
  Call Try.prog 18 #[] w fun t28 w =>
  Does Try.prog (Op.unary Go.UnOp.not t28) w fun t29 w =>
  CondP t29 (
    R (Go.Value.bool false) w
  ) (
    Call Try.prog 19 #[] w fun t30 w =>
    Does Try.prog (eqE .eql 45 (Go.Operand.tmp 31) (Go.Operand.const (Go.Value.pointer none)) t30 (Go.Value.pointer none)) w fun t32 w =>
    JoinP 1 (fun j1 => GuardP t32 false (
      Call Try.prog 20 #[a0] w fun t35 w =>
      Does Try.prog (Op.unary Go.UnOp.not t35) w fun t36 w =>
      j1 t36 w
    ) (j1 undef w))
    (fun t36 w => ∀ _ : Nat → Value,
    PickP t32 (Go.Value.bool true) t36 fun t37 =>
    JoinP 1 (fun j2 => GuardP t37 false (
      Call Try.prog 21 #[a1] w fun t40 w =>
      Does Try.prog (Op.unary Go.UnOp.not t40) w fun t41 w =>
      j2 t41 w
    ) (j2 undef w))
    (fun t41 w => ∀ _ : Nat → Value,
    PickP t37 (Go.Value.bool true) t41 fun t42 =>
    JoinP 1 (fun j3 => GuardP t42 false (
      Does Try.prog (Builtin.len_ #[9] 3 #[a2]) w fun t45 w =>
      Does Try.prog (binOp .gtr 3 t45 (Go.Value.int Go.IntKind.i64 100)) w fun t46 w =>
      j3 t46 w
    ) (j3 undef w))
    (fun t46 w => ∀ _ : Nat → Value,
    PickP t42 (Go.Value.bool true) t46 fun t47 =>
    CondP t47 (
      Does Try.prog (eqE .neq 45 (Go.Operand.tmp 48) (Go.Operand.const (Go.Value.pointer none)) t30 (Go.Value.pointer none)) w fun t49 w =>
      JoinP 1 (fun j4 => GuardP t49 true (
        Call Try.prog 18 #[] w fun t51 w =>
        j4 t51 w
      ) (j4 undef w))
      (fun t51 w => ∀ _ : Nat → Value,
      PickP t49 t51 (Go.Value.bool false) fun t52 =>
      R t52 w
      )
    ) (
      Does Try.prog (Instr.build 52 #[]) w fun t53 w =>
      Does Try.prog (Instr.box 52 t53) w fun t54 w =>
      Rounds 1 (fun next5 t9 w => ∀ _ : Nat → Value,
        Does Try.prog (Builtin.len_ #[44] 3 #[a0]) w fun t57 w =>
        Does Try.prog (binOp .lss 3 t9 t57) w fun t58 w =>
        CondP t58 (
          Does Try.prog (Instr.indexAt 44 a0 t9) w fun t63 w =>
          Does Try.prog (Instr.fieldAt 54 t63 1) w fun t64 w =>
          Does Try.prog (Instr.loadAt 23 t64) w fun t65 w =>
          Call Try.prog 11 #[t65] w fun t66 w =>
          DrawP Try.prog 289 (opsOf Try.f4 11) [0, 7, 8, 9, 10] [a0, t30, t54, t9, t66] [107] (fun t107 w => ∀ _ : Nat → Value,
          CondP t107 (
            R (Go.Value.bool false) w
          ) (
            DrawP Try.prog 289 (opsOf Try.f4 13) [0, 7, 8, 9] [a0, t30, t54, t9] [167] (fun t167 w => ∀ _ : Nat → Value,
            CondP t167 (
              R (Go.Value.bool false) w
            ) (
              Does Try.prog (binOp .add 3 t9 (Go.Value.int Go.IntKind.i64 1)) w fun t60 w =>
              next5 t60 w
            )
) w
          )
) w
        ) (
          Call Try.prog 11 #[a1] w fun t169 w =>
          Call Try.prog 32 #[t30, t169] w fun t173 w =>
          Does Try.prog (Instr.extract t173 0) w fun t174 w =>
          Does Try.prog (Instr.extract t173 1) w fun t175 w =>
          Call Try.prog 33 #[t54, a1] w fun t179 w =>
          Does Try.prog (Instr.extract t179 0) w fun t180 w =>
          Does Try.prog (Instr.extract t179 1) w fun t181 w =>
          Call Try.prog 34 #[t30, t169, a2] w fun t186 w =>
          Does Try.prog (Instr.extract t186 0) w fun t187 w =>
          Does Try.prog (Instr.extract t186 1) w fun t188 w =>
          Call Try.prog 35 #[t54, a1, a2] w fun t193 w =>
          Does Try.prog (Instr.extract t193 0) w fun t194 w =>
          Does Try.prog (Instr.extract t193 1) w fun t195 w =>
          Call Try.prog 36 #[t30, t169] w fun t199 w =>
          Does Try.prog (Instr.extract t199 0) w fun t200 w =>
          Does Try.prog (Instr.extract t199 1) w fun t201 w =>
          Call Try.prog 37 #[t54, a1] w fun t205 w =>
          Does Try.prog (Instr.extract t205 0) w fun t206 w =>
          Does Try.prog (Instr.extract t205 1) w fun t207 w =>
          Call Try.prog 38 #[t30, t169] w fun t211 w =>
          Does Try.prog (Instr.extract t211 0) w fun t212 w =>
          Does Try.prog (Instr.extract t211 1) w fun t213 w =>
          Call Try.prog 39 #[t54, a1] w fun t217 w =>
          Does Try.prog (Instr.extract t217 0) w fun t218 w =>
          Does Try.prog (Instr.extract t217 1) w fun t219 w =>
          Call Try.prog 24 #[t174, t180] w fun t222 w =>
          Does Try.prog (Op.unary Go.UnOp.not t222) w fun t223 w =>
          JoinP 1 (fun j6 => GuardP t223 false (
            Does Try.prog (eqE .neq 29 (Go.Operand.tmp 225) (Go.Operand.tmp 226) t175 t181) w fun t227 w =>
            j6 t227 w
          ) (j6 undef w))
          (fun t227 w => ∀ _ : Nat → Value,
          PickP t223 (Go.Value.bool true) t227 fun t228 =>
          JoinP 1 (fun j7 => GuardP t228 false (
            Call Try.prog 24 #[t187, t194] w fun t232 w =>
            Does Try.prog (Op.unary Go.UnOp.not t232) w fun t233 w =>
            j7 t233 w
          ) (j7 undef w))
          (fun t233 w => ∀ _ : Nat → Value,
          PickP t228 (Go.Value.bool true) t233 fun t234 =>
          JoinP 1 (fun j8 => GuardP t234 false (
            Does Try.prog (eqE .neq 29 (Go.Operand.tmp 236) (Go.Operand.tmp 237) t188 t195) w fun t238 w =>
            j8 t238 w
          ) (j8 undef w))
          (fun t238 w => ∀ _ : Nat → Value,
          PickP t234 (Go.Value.bool true) t238 fun t239 =>
          JoinP 1 (fun j9 => GuardP t239 false (
            Call Try.prog 24 #[t200, t206] w fun t243 w =>
            Does Try.prog (Op.unary Go.UnOp.not t243) w fun t244 w =>
            j9 t244 w
          ) (j9 undef w))
          (fun t244 w => ∀ _ : Nat → Value,
          PickP t239 (Go.Value.bool true) t244 fun t245 =>
          JoinP 1 (fun j10 => GuardP t245 false (
            Does Try.prog (eqE .neq 29 (Go.Operand.tmp 247) (Go.Operand.tmp 248) t201 t207) w fun t249 w =>
            j10 t249 w
          ) (j10 undef w))
          (fun t249 w => ∀ _ : Nat → Value,
          PickP t245 (Go.Value.bool true) t249 fun t250 =>
          JoinP 1 (fun j11 => GuardP t250 false (
            Call Try.prog 24 #[t212, t218] w fun t254 w =>
            Does Try.prog (Op.unary Go.UnOp.not t254) w fun t255 w =>
            j11 t255 w
          ) (j11 undef w))
          (fun t255 w => ∀ _ : Nat → Value,
          PickP t250 (Go.Value.bool true) t255 fun t256 =>
          JoinP 1 (fun j12 => GuardP t256 false (
            Does Try.prog (eqE .neq 29 (Go.Operand.tmp 258) (Go.Operand.tmp 259) t213 t219) w fun t260 w =>
            j12 t260 w
          ) (j12 undef w))
          (fun t260 w => ∀ _ : Nat → Value,
          PickP t256 (Go.Value.bool true) t260 fun t261 =>
          JoinP 1 (fun j13 => GuardP t261 false (
            Call Try.prog 24 #[t169, a1] w fun t265 w =>
            Does Try.prog (Op.unary Go.UnOp.not t265) w fun t266 w =>
            j13 t266 w
          ) (j13 undef w))
          (fun t266 w => ∀ _ : Nat → Value,
          PickP t261 (Go.Value.bool true) t266 fun t267 =>
          CondP t267 (
            R (Go.Value.bool false) w
          ) (
            DrawP Try.prog 289 (opsOf Try.f4 26) [1, 2, 7, 8] [a1, a2, t30, t54] [6] (fun y6 w => ∀ _ : Nat → Value,
            R y6 w
) w
          )
          )
          )
          )
          )
          )
          )
          )
          )
        )
      ) (Go.Value.int Go.IntKind.i64 0) w
    )
    )
    )
    )
  )
theorem has4 : hasBody Try.prog 4 = true := by kernel_rfl
theorem vc4 {R : Value → World → Prop} {a0 a1 a2 : Value} {w : World} (h : V4 R a0 a1 a2 w) : Call Try.prog 4 #[a0, a1, a2] w R :=
  vc_of (args := [a0, a1, a2]) 289 ⟨lk [(8, [9])], lkO [], lk [(11, [0, 7, 8, 9, 10]), (13, [0, 7, 8, 9]), (26, [1, 2, 7, 8])], lk [(11, [107]), (13, [167]), (26, [6])]⟩ Try.func4 rfl Try.ntmps4 rfl has4 mixed (Eq.mp (by kernel_rfl) h)

/-- marline/marlaw12.ReachDiffers -/
def V5 (R : Value → World → Prop) (a0 a1 a2 : Value) (w : World) : Prop :=
  Call Try.prog 6 #[] w fun t20 w =>
  Does Try.prog (Op.unary Go.UnOp.not t20) w fun t21 w =>
  CondP t21 (
    R (Go.Value.bool false) w
  ) (
    Call Try.prog 7 #[a0] w fun t23 w =>
    Does Try.prog (Op.unary Go.UnOp.not t23) w fun t24 w =>
    JoinP 1 (fun j1 => GuardP t24 false (
      Call Try.prog 8 #[a1] w fun t27 w =>
      Does Try.prog (Op.unary Go.UnOp.not t27) w fun t28 w =>
      j1 t28 w
    ) (j1 undef w))
    (fun t28 w => ∀ _ : Nat → Value,
    PickP t24 (Go.Value.bool true) t28 fun t29 =>
    JoinP 1 (fun j2 => GuardP t29 false (
      Call Try.prog 8 #[a2] w fun t32 w =>
      Does Try.prog (Op.unary Go.UnOp.not t32) w fun t33 w =>
      j2 t33 w
    ) (j2 undef w))
    (fun t33 w => ∀ _ : Nat → Value,
    PickP t29 (Go.Value.bool true) t33 fun t34 =>
    CondP t34 (
      Call Try.prog 6 #[] w fun t35 w =>
      R t35 w
    ) (
      Call Try.prog 9 #[a0, (Go.Value.bool false)] w fun t37 w =>
      Call Try.prog 42 #[t37, a1, a2, (Go.Value.int Go.IntKind.i64 2000)] w fun t42 w =>
      Does Try.prog (Instr.extract t42 0) w fun t43 w =>
      Does Try.prog (Instr.extract t42 1) w fun t44 w =>
      Call Try.prog 10 #[t37, a1, (Go.Value.int Go.IntKind.i64 2000)] w fun t48 w =>
      Does Try.prog (Instr.extract t48 0) w fun t49 w =>
      Does Try.prog (Instr.extract t48 1) w fun t50 w =>
      Does Try.prog (Instr.extract t48 2) w fun t51 w =>
      Call Try.prog 10 #[t37, a2, (Go.Value.int Go.IntKind.i64 2000)] w fun t55 w =>
      Does Try.prog (Instr.extract t55 0) w fun t56 w =>
      Does Try.prog (Instr.extract t55 1) w fun t57 w =>
      Does Try.prog (Instr.extract t55 2) w fun t58 w =>
      Does Try.prog (eqE .neq 29 (Go.Operand.tmp 59) (Go.Operand.const (Go.Value.int Go.IntKind.i64 0)) t51 (Go.Value.int Go.IntKind.i64 0)) w fun t60 w =>
      JoinP 1 (fun j3 => GuardP t60 false (
        Does Try.prog (eqE .neq 29 (Go.Operand.tmp 62) (Go.Operand.const (Go.Value.int Go.IntKind.i64 0)) t58 (Go.Value.int Go.IntKind.i64 0)) w fun t63 w =>
        j3 t63 w
      ) (j3 undef w))
      (fun t63 w => ∀ _ : Nat → Value,
      PickP t60 (Go.Value.bool true) t63 fun t64 =>
      JoinP 1 (fun j4 => GuardP t64 false (
        Does Try.prog (eqE .eql 29 (Go.Operand.tmp 66) (Go.Operand.const (Go.Value.int Go.IntKind.i64 0)) t44 (Go.Value.int Go.IntKind.i64 0)) w fun t67 w =>
        Does Try.prog (Builtin.len_ #[23] 3 #[t50]) w fun t69 w =>
        Does Try.prog (eqE .eql 3 (Go.Operand.tmp 69) (Go.Operand.const (Go.Value.int Go.IntKind.i64 0)) t69 (Go.Value.int Go.IntKind.i64 0)) w fun t70 w =>
        Does Try.prog (eqE .neq 4 (Go.Operand.tmp 67) (Go.Operand.tmp 70) t67 t70) w fun t71 w =>
        j4 t71 w
      ) (j4 undef w))
      (fun t71 w => ∀ _ : Nat → Value,
      PickP t64 (Go.Value.bool true) t71 fun t72 =>
      CondP t72 (
        R (Go.Value.bool false) w
      ) (
        Does Try.prog (eqE .neq 29 (Go.Operand.tmp 73) (Go.Operand.const (Go.Value.int Go.IntKind.i64 0)) t44 (Go.Value.int Go.IntKind.i64 0)) w fun t74 w =>
        CondP t74 (
          Call Try.prog 6 #[] w fun t75 w =>
          JoinP 1 (fun j5 => GuardP t75 true (
            Does Try.prog (eqE .eql 29 (Go.Operand.tmp 77) (Go.Operand.const (Go.Value.int Go.IntKind.i64 7)) t44 (Go.Value.int Go.IntKind.i64 7)) w fun t78 w =>
            j5 t78 w
          ) (j5 undef w))
          (fun t78 w => ∀ _ : Nat → Value,
          PickP t75 t78 (Go.Value.bool false) fun t79 =>
          JoinP 1 (fun j6 => GuardP t79 true (
            Does Try.prog (Builtin.len_ #[23] 3 #[t43]) w fun t82 w =>
            Does Try.prog (eqE .eql 3 (Go.Operand.tmp 82) (Go.Operand.const (Go.Value.int Go.IntKind.i64 0)) t82 (Go.Value.int Go.IntKind.i64 0)) w fun t83 w =>
            j6 t83 w
          ) (j6 undef w))
          (fun t83 w => ∀ _ : Nat → Value,
          PickP t79 t83 (Go.Value.bool false) fun t84 =>
          R t84 w
          )
          )
        ) (
          Rounds 1 (fun next7 t16 w => ∀ _ : Nat → Value,
            Does Try.prog (Builtin.len_ #[23] 3 #[t49]) w fun t87 w =>
            Does Try.prog (binOp .lss 3 t16 t87) w fun t88 w =>
            CondP t88 (
              DrawP Try.prog 146 (opsOf Try.f5 16) [8, 10, 13, 14, 16] [t43, t49, t56, t57, t16] [111] (fun t111 w => ∀ _ : Nat → Value,
              CondP t111 (
                R (Go.Value.bool false) w
              ) (
                Does Try.prog (binOp .add 3 t16 (Go.Value.int Go.IntKind.i64 1)) w fun t90 w =>
                next7 t90 w
              )
) w
            ) (
              Rounds 1 (fun next8 t17 w => ∀ _ : Nat → Value,
                Does Try.prog (Builtin.len_ #[23] 3 #[t43]) w fun t114 w =>
                Does Try.prog (binOp .lss 3 t17 t114) w fun t115 w =>
                CondP t115 (
                  Does Try.prog (Instr.indexAt 23 t43 t17) w fun t121 w =>
                  Does Try.prog (Instr.loadAt 9 t121) w fun t122 w =>
                  Call Try.prog 14 #[t49, t122] w fun t123 w =>
                  Does Try.prog (Op.unary Go.UnOp.not t123) w fun t124 w =>
                  CondP t124 (
                    R (Go.Value.bool false) w
                  ) (
                    Does Try.prog (binOp .add 3 t17 (Go.Value.int Go.IntKind.i64 1)) w fun t117 w =>
                    next8 t117 w
                  )
                ) (
                  Call Try.prog 42 #[t37, a1, a1, (Go.Value.int Go.IntKind.i64 2000)] w fun t129 w =>
                  Does Try.prog (Instr.extract t129 0) w fun t130 w =>
                  Does Try.prog (Instr.extract t129 1) w fun t131 w =>
                  Call Try.prog 6 #[] w fun t132 w =>
                  JoinP 1 (fun j9 => GuardP t132 true (
                    Does Try.prog (eqE .eql 29 (Go.Operand.tmp 134) (Go.Operand.const (Go.Value.int Go.IntKind.i64 0)) t131 (Go.Value.int Go.IntKind.i64 0)) w fun t135 w =>
                    j9 t135 w
                  ) (j9 undef w))
                  (fun t135 w => ∀ _ : Nat → Value,
                  PickP t132 t135 (Go.Value.bool false) fun t136 =>
                  JoinP 1 (fun j10 => GuardP t136 true (
                    Does Try.prog (Builtin.len_ #[23] 3 #[t130]) w fun t139 w =>
                    Does Try.prog (eqE .eql 3 (Go.Operand.tmp 139) (Go.Operand.const (Go.Value.int Go.IntKind.i64 0)) t139 (Go.Value.int Go.IntKind.i64 0)) w fun t140 w =>
                    j10 t140 w
                  ) (j10 undef w))
                  (fun t140 w => ∀ _ : Nat → Value,
                  PickP t136 t140 (Go.Value.bool false) fun t141 =>
                  JoinP 1 (fun j11 => GuardP t141 true (
                    Call Try.prog 12 #[t43] w fun t144 w =>
                    j11 t144 w
                  ) (j11 undef w))
                  (fun t144 w => ∀ _ : Nat → Value,
                  PickP t141 t144 (Go.Value.bool false) fun t145 =>
                  R t145 w
                  )
                  )
                  )
                )
              ) (Go.Value.int Go.IntKind.i64 0) w
            )
          ) (Go.Value.int Go.IntKind.i64 0) w
        )
      )
      )
      )
    )
    )
    )
  )
theorem has5 : hasBody Try.prog 5 = true := by kernel_rfl
theorem vc5 {R : Value → World → Prop} {a0 a1 a2 : Value} {w : World} (h : V5 R a0 a1 a2 w) : Call Try.prog 5 #[a0, a1, a2] w R :=
  vc_of (args := [a0, a1, a2]) 146 ⟨lk [(14, [16]), (19, [17])], lkO [], lk [(16, [8, 10, 13, 14, 16])], lk [(16, [111])]⟩ Try.func5 rfl Try.ntmps5 rfl has5 mixed (Eq.mp (by kernel_rfl) h)

/-- marline/marlaw12.first -/
def V6 (R : Value → World → Prop) (w : World) : Prop :=
  Does Try.prog (Instr.build 72 #[(0, (Go.Value.int Go.IntKind.i64 2))]) w fun t9 w =>
  Call Try.prog 43 #[t9] w fun t10 w =>
  Does Try.prog (Instr.extract t10 0) w fun t11 w =>
  Does Try.prog (Instr.extract t10 1) w fun t12 w =>
  Call Try.prog 44 #[t11] w fun t15 w =>
  Does Try.prog (Instr.build 72 #[(0, (Go.Value.int Go.IntKind.i64 3)), (3, t15)]) w fun t16 w =>
  Call Try.prog 43 #[t16] w fun t17 w =>
  Does Try.prog (Instr.extract t17 0) w fun t18 w =>
  Does Try.prog (Instr.extract t17 1) w fun t19 w =>
  Does Try.prog (Instr.buildSlice 22 2 #[(0, t11), (1, t18)]) w fun t23 w =>
  Call Try.prog 9 #[t23, (Go.Value.bool false)] w fun t24 w =>
  Call Try.prog 44 #[t18] w fun t26 w =>
  Does Try.prog (Instr.buildSlice 23 1 #[(0, t26)]) w fun t27 w =>
  Call Try.prog 10 #[t24, t27, (Go.Value.int Go.IntKind.i64 10)] w fun t28 w =>
  Does Try.prog (Instr.extract t28 0) w fun t29 w =>
  Does Try.prog (Instr.extract t28 1) w fun t30 w =>
  Does Try.prog (Instr.extract t28 2) w fun t31 w =>
  Does Try.prog (eqE .eql 29 (Go.Operand.tmp 32) (Go.Operand.const (Go.Value.int Go.IntKind.i64 0)) t31 (Go.Value.int Go.IntKind.i64 0)) w fun t33 w =>
  JoinP 1 (fun j1 => GuardP t33 true (
    Does Try.prog (Builtin.len_ #[23] 3 #[t29]) w fun t36 w =>
    Does Try.prog (eqE .eql 3 (Go.Operand.tmp 36) (Go.Operand.const (Go.Value.int Go.IntKind.i64 2)) t36 (Go.Value.int Go.IntKind.i64 2)) w fun t37 w =>
    j1 t37 w
  ) (j1 undef w))
  (fun t37 w => ∀ _ : Nat → Value,
  PickP t33 t37 (Go.Value.bool false) fun t38 =>
  JoinP 1 (fun j2 => GuardP t38 true (
    Does Try.prog (Builtin.len_ #[23] 3 #[t30]) w fun t41 w =>
    Does Try.prog (eqE .eql 3 (Go.Operand.tmp 41) (Go.Operand.const (Go.Value.int Go.IntKind.i64 0)) t41 (Go.Value.int Go.IntKind.i64 0)) w fun t42 w =>
    j2 t42 w
  ) (j2 undef w))
  (fun t42 w => ∀ _ : Nat → Value,
  PickP t38 t42 (Go.Value.bool false) fun t43 =>
  R t43 w
  )
  )
theorem has6 : hasBody Try.prog 6 = true := by kernel_rfl
theorem vc6 {R : Value → World → Prop} {_u : Unit} {w : World} (h : V6 R  w) : Call Try.prog 6 #[] w R :=
  vc_of (args := []) 44 ⟨lk [], lkO [], lk [], lk []⟩ Try.func6 rfl Try.ntmps6 rfl has6 mixed (Eq.mp (by kernel_rfl) h)

/-- marline/marlaw10.Few -/
def V7 (R : Value → World → Prop) (a0 : Value) (w : World) : Prop :=
  Rounds 2 (fun next1 n3 i4 w => ∀ _ : Nat → Value,
    Does Try.prog (Builtin.len_ #[22] 3 #[a0]) w fun t7 w =>
    Does Try.prog (binOp .lss 3 i4 t7) w fun t8 w =>
    JoinP 1 (fun j2 => GuardP t8 true (
      Does Try.prog (binOp .lss 3 i4 (Go.Value.int Go.IntKind.i64 40)) w fun t11 w =>
      j2 t11 w
    ) (j2 undef w))
    (fun t11 w => ∀ _ : Nat → Value,
    PickP t8 t11 (Go.Value.bool false) fun t12 =>
    CondP t12 (
      Does Try.prog (Instr.indexAt 22 a0 i4) w fun t18 w =>
      Does Try.prog (Instr.loadAt 34 t18) w fun t19 w =>
      Does Try.prog (Builtin.len_ #[34] 3 #[t19]) w fun t20 w =>
      Does Try.prog (Builtin.min_ #[3, 3] 3 #[t20, (Go.Value.int Go.IntKind.i64 6001)]) w fun t21 w =>
      Does Try.prog (binOp .add 3 n3 t21) w fun t22 w =>
      Does Try.prog (Builtin.min_ #[3, 3] 3 #[t22, (Go.Value.int Go.IntKind.i64 24000)]) w fun t23 w =>
      Does Try.prog (Instr.indexAt 22 a0 i4) w fun t26 w =>
      Does Try.prog (Instr.loadAt 34 t26) w fun t27 w =>
      Does Try.prog (Builtin.len_ #[34] 3 #[t27]) w fun t28 w =>
      Does Try.prog (binOp .gtr 3 t28 (Go.Value.int Go.IntKind.i64 1500)) w fun t29 w =>
      CondP t29 (
        R (Go.Value.bool false) w
      ) (
        Does Try.prog (binOp .add 3 i4 (Go.Value.int Go.IntKind.i64 1)) w fun t14 w =>
        next1 t23 t14 w
      )
    ) (
      Does Try.prog (Builtin.len_ #[22] 3 #[a0]) w fun t31 w =>
      Does Try.prog (binOp .leq 3 t31 (Go.Value.int Go.IntKind.i64 40)) w fun t32 w =>
      JoinP 1 (fun j3 => GuardP t32 true (
        Does Try.prog (binOp .leq 3 n3 (Go.Value.int Go.IntKind.i64 6000)) w fun t35 w =>
        j3 t35 w
      ) (j3 undef w))
      (fun t35 w => ∀ _ : Nat → Value,
      PickP t32 t35 (Go.Value.bool false) fun t36 =>
      R t36 w
      )
    )
    )
  ) (Go.Value.int Go.IntKind.i64 0) (Go.Value.int Go.IntKind.i64 0) w
theorem has7 : hasBody Try.prog 7 = true := by kernel_rfl
theorem vc7 {R : Value → World → Prop} {a0 : Value} {w : World} (h : V7 R a0 w) : Call Try.prog 7 #[a0] w R :=
  vc_of (args := [a0]) 37 ⟨lk [(3, [3, 4])], lkO [], lk [], lk []⟩ Try.func7 rfl Try.ntmps7 rfl has7 mixed (Eq.mp (by kernel_rfl) h)

/-- marline/marlaw12.few -/
def V8 (R : Value → World → Prop) (a0 : Value) (w : World) : Prop :=
  Rounds 1 (fun next1 i3 w => ∀ _ : Nat → Value,
    Does Try.prog (Builtin.len_ #[23] 3 #[a0]) w fun t6 w =>
    Does Try.prog (binOp .lss 3 i3 t6) w fun t7 w =>
    JoinP 1 (fun j2 => GuardP t7 true (
      Does Try.prog (binOp .lss 3 i3 (Go.Value.int Go.IntKind.i64 20)) w fun t10 w =>
      j2 t10 w
    ) (j2 undef w))
    (fun t10 w => ∀ _ : Nat → Value,
    PickP t7 t10 (Go.Value.bool false) fun t11 =>
    CondP t11 (
      Does Try.prog (Instr.indexAt 23 a0 i3) w fun t16 w =>
      Does Try.prog (Instr.loadAt 9 t16) w fun t17 w =>
      Does Try.prog (Builtin.len_ #[9] 3 #[t17]) w fun t18 w =>
      Does Try.prog (binOp .gtr 3 t18 (Go.Value.int Go.IntKind.i64 100)) w fun t19 w =>
      CondP t19 (
        R (Go.Value.bool false) w
      ) (
        Does Try.prog (binOp .add 3 i3 (Go.Value.int Go.IntKind.i64 1)) w fun t13 w =>
        next1 t13 w
      )
    ) (
      Does Try.prog (Builtin.len_ #[23] 3 #[a0]) w fun t21 w =>
      Does Try.prog (binOp .leq 3 t21 (Go.Value.int Go.IntKind.i64 20)) w fun t22 w =>
      R t22 w
    )
    )
  ) (Go.Value.int Go.IntKind.i64 0) w
theorem has8 : hasBody Try.prog 8 = true := by kernel_rfl
theorem vc8 {R : Value → World → Prop} {a0 : Value} {w : World} (h : V8 R a0 w) : Call Try.prog 8 #[a0] w R :=
  vc_of (args := [a0]) 23 ⟨lk [(2, [3])], lkO [], lk [], lk []⟩ Try.func8 rfl Try.ntmps8 rfl has8 mixed (Eq.mp (by kernel_rfl) h)

/-- marline/marlaw10.Source -/
def V9 (R : Value → World → Prop) (a0 a1 : Value) (w : World) : Prop :=
  Does Try.prog (Instr.box 22 a0) w fun l2 w =>
  Does Try.prog (Instr.box 4 a1) w fun lie3 w =>
  Does Try.prog (Instr.alloc 23 true (.tuple #[])) w fun ids5 w =>
  Rounds 1 (fun next1 i6 w => ∀ _ : Nat → Value,
    Does Try.prog (Instr.loadAt 22 l2) w fun t8 w =>
    Does Try.prog (Builtin.len_ #[22] 3 #[t8]) w fun t9 w =>
    Does Try.prog (binOp .lss 3 i6 t9) w fun t10 w =>
    CondP t10 (
      DrawP Try.prog 22 (opsOf Try.f9 5) [2, 5, 6] [l2, ids5, i6] [] (fun  w => ∀ _ : Nat → Value,
      Does Try.prog (binOp .add 3 i6 (Go.Value.int Go.IntKind.i64 1)) w fun t12 w =>
      next1 t12 w
) w
    ) (
      R (Value.func (Go.Fn.func 45) #[] #[l2, lie3, ids5]) w
    )
  ) (Go.Value.int Go.IntKind.i64 0) w
theorem has9 : hasBody Try.prog 9 = true := by kernel_rfl
theorem vc9 {R : Value → World → Prop} {a0 a1 : Value} {w : World} (h : V9 R a0 a1 w) : Call Try.prog 9 #[a0, a1] w R :=
  vc_of (args := [a0, a1]) 22 ⟨lk [(3, [6])], lkO [], lk [(5, [2, 5, 6])], lk [(5, [])]⟩ Try.func9 rfl Try.ntmps9 rfl has9 mixed (Eq.mp (by kernel_rfl) h)

/-- marline/reach.Closure -/
def V10 (R : Value → World → Prop) (a0 a1 a2 : Value) (w : World) : Prop :=
  Call Try.prog 47 #[a2] w fun t19 w =>
  Does Try.prog (Op.unary Go.UnOp.not t19) w fun t20 w =>
  CondP t20 (
    R (Value.tuple #[(Go.Value.slice none 0 0), (Go.Value.slice none 0 0), (Go.Value.int Go.IntKind.i64 1)]) w
  ) (
    Does Try.prog (Instr.makeMap 77 none) w fun t21 w =>
    Call Try.prog 48 #[a1] w fun t23 w =>
    Rounds 3 (fun next1 t10 t11 t12 w => ∀ _ : Nat → Value,
      Does Try.prog (Builtin.len_ #[23] 3 #[t12]) w fun t25 w =>
      Does Try.prog (binOp .gtr 3 t25 (Go.Value.int Go.IntKind.i64 0)) w fun t26 w =>
      CondP t26 (
        Does Try.prog (Builtin.len_ #[23] 3 #[t12]) w fun t29 w =>
        Does Try.prog (binOp .sub 3 t29 (Go.Value.int Go.IntKind.i64 1)) w fun t30 w =>
        Does Try.prog (Instr.indexAt 23 t12 t30) w fun t31 w =>
        Does Try.prog (Instr.loadAt 9 t31) w fun t32 w =>
        Does Try.prog (Builtin.len_ #[23] 3 #[t12]) w fun t35 w =>
        Does Try.prog (binOp .sub 3 t35 (Go.Value.int Go.IntKind.i64 1)) w fun t36 w =>
        Does Try.prog (Instr.sliceAt 23 t12 none (some t36) none) w fun t37 w =>
        Does Try.prog (Instr.lookup 77 t21 t32 true) w fun t41 w =>
        Does Try.prog (Instr.extract t41 0) w fun t42 w =>
        Does Try.prog (Instr.extract t41 1) w fun t43 w =>
        CondP t43 (
          next1 t10 t11 t37 w
        ) (
          Does Try.prog (Builtin.len_ #[77] 3 #[t21]) w fun t46 w =>
          Does Try.prog (binOp .geq 3 t46 a2) w fun t48 w =>
          CondP t48 (
            R (Value.tuple #[(Go.Value.slice none 0 0), (Go.Value.slice none 0 0), (Go.Value.int Go.IntKind.i64 14)]) w
          ) (
            Does Try.prog (Instr.mapUpdate 77 t21 t32 (Go.Value.int Go.IntKind.i64 1)) w fun _ w =>
            Call Try.prog 49 #[a0, t32] w fun t54 w =>
            Does Try.prog (Instr.extract t54 0) w fun t55 w =>
            Does Try.prog (Instr.extract t54 1) w fun t56 w =>
            Does Try.prog (Instr.alloc 72 true (.tuple #[])) w fun t16 w =>
            Does Try.prog (Instr.storeAt 72 t16 t55) w fun _ w =>
            Does Try.prog (Op.unary Go.UnOp.not t56) w fun t58 w =>
            CondP t58 (
              Does Try.prog (Instr.buildSlice 23 1 #[(0, t32)]) w fun t61 w =>
              Does Try.prog (Builtin.append_ #[23, 23] 23 #[t11, t61]) w fun t62 w =>
              next1 t10 t62 t37 w
            ) (
              Does Try.prog (Instr.buildSlice 23 1 #[(0, t32)]) w fun t65 w =>
              Does Try.prog (Builtin.append_ #[23, 23] 23 #[t10, t65]) w fun t66 w =>
              Does Try.prog (Instr.loadAt 72 t16) w fun t68 w =>
              Call Try.prog 50 #[t68] w fun t69 w =>
              Does Try.prog (Builtin.append_ #[23, 23] 23 #[t37, t69]) w fun t70 w =>
              next1 t66 t11 t70 w
            )
          )
        )
      ) (
        Call Try.prog 51 #[t10] w fun t72 w =>
        Call Try.prog 51 #[t11] w fun t74 w =>
        R (Value.tuple #[t72, t74, (Go.Value.int Go.IntKind.i64 0)]) w
      )
    ) (Go.Value.slice none 0 0) (Go.Value.slice none 0 0) t23 w
  )
theorem has10 : hasBody Try.prog 10 = true := by kernel_rfl
theorem vc10 {R : Value → World → Prop} {a0 a1 a2 : Value} {w : World} (h : V10 R a0 a1 a2 w) : Call Try.prog 10 #[a0, a1, a2] w R :=
  vc_of (args := [a0, a1, a2]) 75 ⟨lk [(6, [10, 11, 12])], lkO [], lk [], lk []⟩ Try.func10 rfl Try.ntmps10 rfl has10 mixed (Eq.mp (by kernel_rfl) h)

/-- marline/marref.CopyTexts -/
def V11 (R : Value → World → Prop) (a0 : Value) (w : World) : Prop :=
  Does Try.prog (Instr.buildSlice 23 0 #[]) w fun t3 w =>
  Does Try.prog (Builtin.append_ #[23, 23] 23 #[t3, a0]) w fun t5 w =>
  R t5 w
theorem has11 : hasBody Try.prog 11 = true := by kernel_rfl
theorem vc11 {R : Value → World → Prop} {a0 : Value} {w : World} (h : V11 R a0 w) : Call Try.prog 11 #[a0] w R :=
  vc_of (args := [a0]) 6 ⟨lk [], lkO [], lk [], lk []⟩ Try.func11 rfl Try.ntmps11 rfl has11 mixed (Eq.mp (by kernel_rfl) h)

/-- marline/marref.Rises -/
def V12 (R : Value → World → Prop) (a0 : Value) (w : World) : Prop :=
  Rounds 1 (fun next1 i3 w => ∀ _ : Nat → Value,
    Does Try.prog (Builtin.len_ #[23] 3 #[a0]) w fun t6 w =>
    Does Try.prog (binOp .lss 3 i3 t6) w fun t7 w =>
    CondP t7 (
      DrawP Try.prog 20 (opsOf Try.f12 4) [0, 3] [a0, i3] [19] (fun t19 w => ∀ _ : Nat → Value,
      CondP t19 (
        R (Go.Value.bool false) w
      ) (
        Does Try.prog (binOp .add 3 i3 (Go.Value.int Go.IntKind.i64 1)) w fun t9 w =>
        next1 t9 w
      )
) w
    ) (
      R (Go.Value.bool true) w
    )
  ) (Go.Value.int Go.IntKind.i64 1) w
theorem has12 : hasBody Try.prog 12 = true := by kernel_rfl
theorem vc12 {R : Value → World → Prop} {a0 : Value} {w : World} (h : V12 R a0 w) : Call Try.prog 12 #[a0] w R :=
  vc_of (args := [a0]) 20 ⟨lk [(2, [3])], lkO [], lk [(4, [0, 3])], lk [(4, [19])]⟩ Try.func12 rfl Try.ntmps12 rfl has12 mixed (Eq.mp (by kernel_rfl) h)

/-- marline/marref.Unique -/
def V13 (R : Value → World → Prop) (a0 : Value) (w : World) : Prop :=
  Rounds 2 (fun next1 out3 i4 w => ∀ _ : Nat → Value,
    Does Try.prog (Builtin.len_ #[23] 3 #[a0]) w fun t8 w =>
    Does Try.prog (binOp .lss 3 i4 t8) w fun t9 w =>
    CondP t9 (
      Does Try.prog (Builtin.len_ #[23] 3 #[out3]) w fun t13 w =>
      Rounds 1 (fun next2 k5 w => ∀ _ : Nat → Value,
        DrawP Try.prog 59 (opsOf Try.f13 6) [0, 3, 4, 5] [a0, out3, i4, k5] [27] (fun t27 w => ∀ _ : Nat → Value,
        CondP t27 (
          Does Try.prog (binOp .sub 3 k5 (Go.Value.int Go.IntKind.i64 1)) w fun t29 w =>
          next2 t29 w
        ) (
          DrawP Try.prog 59 (opsOf Try.f13 8) [0, 3, 4, 5] [a0, out3, i4, k5] [44] (fun t44 w => ∀ _ : Nat → Value,
          CondP t44 (
            Does Try.prog (binOp .add 3 i4 (Go.Value.int Go.IntKind.i64 1)) w fun t11 w =>
            next1 out3 t11 w
          ) (
            DrawP Try.prog 59 (opsOf Try.f13 9) [0, 3, 4, 5] [a0, out3, i4, k5] [3] (fun out3 w => ∀ _ : Nat → Value,
            Does Try.prog (binOp .add 3 i4 (Go.Value.int Go.IntKind.i64 1)) w fun t11 w =>
            next1 out3 t11 w
) w
          )
) w
        )
) w
      ) t13 w
    ) (
      R out3 w
    )
  ) (Go.Value.slice none 0 0) (Go.Value.int Go.IntKind.i64 0) w
theorem has13 : hasBody Try.prog 13 = true := by kernel_rfl
theorem vc13 {R : Value → World → Prop} {a0 : Value} {w : World} (h : V13 R a0 w) : Call Try.prog 13 #[a0] w R :=
  vc_of (args := [a0]) 59 ⟨lk [(3, [3, 4]), (6, [5])], lkO [], lk [(6, [0, 3, 4, 5]), (8, [0, 3, 4, 5]), (9, [0, 3, 4, 5])], lk [(6, [27]), (8, [44]), (9, [3])]⟩ Try.func13 rfl Try.ntmps13 rfl has13 mixed (Eq.mp (by kernel_rfl) h)

/-- marline/marref.Has -/
def V14 (R : Value → World → Prop) (a0 a1 : Value) (w : World) : Prop :=
  Rounds 1 (fun next1 i5 w => ∀ _ : Nat → Value,
    Does Try.prog (Builtin.len_ #[23] 3 #[a0]) w fun t8 w =>
    Does Try.prog (binOp .lss 3 i5 t8) w fun t9 w =>
    CondP t9 (
      Does Try.prog (Instr.indexAt 23 a0 i5) w fun t14 w =>
      Does Try.prog (Instr.loadAt 9 t14) w fun t15 w =>
      Does Try.prog (eqE .eql 9 (Go.Operand.tmp 15) (Go.Operand.tmp 16) t15 a1) w fun t17 w =>
      CondP t17 (
        R (Go.Value.bool true) w
      ) (
        Does Try.prog (binOp .add 3 i5 (Go.Value.int Go.IntKind.i64 1)) w fun t11 w =>
        next1 t11 w
      )
    ) (
      R (Go.Value.bool false) w
    )
  ) (Go.Value.int Go.IntKind.i64 0) w
theorem has14 : hasBody Try.prog 14 = true := by kernel_rfl
theorem vc14 {R : Value → World → Prop} {a0 a1 : Value} {w : World} (h : V14 R a0 a1 w) : Call Try.prog 14 #[a0, a1] w R :=
  vc_of (args := [a0, a1]) 18 ⟨lk [(2, [5])], lkO [], lk [], lk []⟩ Try.func14 rfl Try.ntmps14 rfl has14 mixed (Eq.mp (by kernel_rfl) h)

/-- marline/marref6.Decode -/
def V15 (R : Value → World → Prop) (a0 : Value) (w : World) : Prop :=
  Does Try.prog (Instr.alloc 38 true (.tuple #[])) w fun A2 w =>
  Does Try.prog (Builtin.len_ #[34] 3 #[a0]) w fun t15 w =>
  Does Try.prog (eqE .eql 3 (Go.Operand.tmp 15) (Go.Operand.const (Go.Value.int Go.IntKind.i64 0)) t15 (Go.Value.int Go.IntKind.i64 0)) w fun t16 w =>
  CondP t16 (
    Does Try.prog (Instr.build 38 #[]) w fun t17 w =>
    Does Try.prog (Instr.storeAt 38 A2 t17) w fun _ w =>
    SameP Try.prog (loadRes 38 A2) w fun r0 =>
    R (Value.tuple #[r0, (Go.Value.int Go.IntKind.i64 2)]) w
  ) (
    Call Try.prog 46 #[a0] w fun t19 w =>
    Does Try.prog (Instr.build 84 #[(0, t19), (1, (Go.Value.int Go.IntKind.i64 1))]) w fun t20 w =>
    Does Try.prog (Instr.box 84 t20) w fun t21 w =>
    Does Try.prog (Instr.indexAt 34 a0 (Go.Value.int Go.IntKind.i64 0)) w fun t23 w =>
    Does Try.prog (Instr.loadAt 5 t23) w fun t24 w =>
    Does Try.prog (convert 5 3 t24) w fun t25 w =>
    Does Try.prog (Instr.build 38 #[(0, t25)]) w fun t26 w =>
    Does Try.prog (Instr.alloc 38 true (.tuple #[])) w fun a5 w =>
    Does Try.prog (Instr.storeAt 38 a5 t26) w fun _ w =>
    JoinP 0 (fun j1 =>
      Does Try.prog (Instr.fieldAt 38 a5 0) w fun t27 w =>
      Does Try.prog (Instr.loadAt 3 t27) w fun t28 w =>
      Does Try.prog (eqE .eql 3 (Go.Operand.tmp 28) (Go.Operand.const (Go.Value.int Go.IntKind.i64 1)) t28 (Go.Value.int Go.IntKind.i64 1)) w fun t30 w =>
      CondP t30 (
        Does Try.prog (Builtin.len_ #[34] 3 #[a0]) w fun t33 w =>
        Does Try.prog (binOp .sub 3 t33 (Go.Value.int Go.IntKind.i64 1)) w fun t34 w =>
        Call Try.prog 52 #[t21, t34] w fun t35 w =>
        Does Try.prog (Instr.fieldAt 38 a5 1) w fun t36 w =>
        Does Try.prog (Instr.storeAt 34 t36 t35) w fun _ w =>
        j1  w
      ) (
        Does Try.prog (eqE .eql 3 (Go.Operand.tmp 28) (Go.Operand.const (Go.Value.int Go.IntKind.i64 2)) t28 (Go.Value.int Go.IntKind.i64 2)) w fun t38 w =>
        CondP t38 (
          Call Try.prog 53 #[t21] w fun t40 w =>
          Rounds 1 (fun next2 t7 w => ∀ _ : Nat → Value,
            Does Try.prog (binOp .lss 3 t7 t40) w fun t43 w =>
            JoinP 1 (fun j3 => GuardP t43 true (
              NilCheckP t21 fun t46 =>
              Does Try.prog (Instr.fieldAt 84 t46 2) w fun t47 w =>
              Does Try.prog (Instr.loadAt 4 t47) w fun t48 w =>
              Does Try.prog (Op.unary Go.UnOp.not t48) w fun t49 w =>
              j3 t49 w
            ) (j3 undef w))
            (fun t49 w => ∀ _ : Nat → Value,
            PickP t43 t49 (Go.Value.bool false) fun t50 =>
            CondP t50 (
              Call Try.prog 54 #[t21] w fun t54 w =>
              Call Try.prog 53 #[t21] w fun t57 w =>
              Call Try.prog 52 #[t21, t57] w fun t58 w =>
              DrawP Try.prog 132 (opsOf Try.f15 15) [4, 5, 8, 9] [t21, a5, t54, t58] [] (fun  w => ∀ _ : Nat → Value,
              Does Try.prog (binOp .add 3 t7 (Go.Value.int Go.IntKind.i64 1)) w fun t52 w =>
              next2 t52 w
) w
            ) (
              j1  w
            )
            )
          ) (Go.Value.int Go.IntKind.i64 0) w
        ) (
          Does Try.prog (eqE .eql 3 (Go.Operand.tmp 28) (Go.Operand.const (Go.Value.int Go.IntKind.i64 3)) t28 (Go.Value.int Go.IntKind.i64 3)) w fun t72 w =>
          CondP t72 (
            Call Try.prog 52 #[t21, (Go.Value.int Go.IntKind.i64 32)] w fun t74 w =>
            Call Try.prog 55 #[t74] w fun t75 w =>
            Does Try.prog (Instr.fieldAt 38 a5 3) w fun t76 w =>
            Does Try.prog (Instr.storeAt 9 t76 t75) w fun _ w =>
            Call Try.prog 54 #[t21] w fun t78 w =>
            Rounds 1 (fun next4 t11 w => ∀ _ : Nat → Value,
              Does Try.prog (binOp .lss 3 t11 t78) w fun t81 w =>
              JoinP 1 (fun j5 => GuardP t81 true (
                NilCheckP t21 fun t84 =>
                Does Try.prog (Instr.fieldAt 84 t84 2) w fun t85 w =>
                Does Try.prog (Instr.loadAt 4 t85) w fun t86 w =>
                Does Try.prog (Op.unary Go.UnOp.not t86) w fun t87 w =>
                j5 t87 w
              ) (j5 undef w))
              (fun t87 w => ∀ _ : Nat → Value,
              PickP t81 t87 (Go.Value.bool false) fun t88 =>
              CondP t88 (
                DrawP Try.prog 132 (opsOf Try.f15 22) [4, 5] [t21, a5] [] (fun  w => ∀ _ : Nat → Value,
                Does Try.prog (binOp .add 3 t11 (Go.Value.int Go.IntKind.i64 1)) w fun t90 w =>
                next4 t90 w
) w
              ) (
                Call Try.prog 53 #[t21] w fun t100 w =>
                Call Try.prog 53 #[t21] w fun t102 w =>
                Does Try.prog (Instr.fieldAt 38 a5 5) w fun t103 w =>
                Does Try.prog (Instr.storeAt 3 t103 t100) w fun _ w =>
                Does Try.prog (Instr.fieldAt 38 a5 6) w fun t104 w =>
                Does Try.prog (Instr.storeAt 3 t104 t102) w fun _ w =>
                Call Try.prog 53 #[t21] w fun t107 w =>
                Call Try.prog 52 #[t21, t107] w fun t108 w =>
                Does Try.prog (convert 34 9 t108) w fun t109 w =>
                Does Try.prog (Instr.fieldAt 38 a5 7) w fun t110 w =>
                Does Try.prog (Instr.storeAt 9 t110 t109) w fun _ w =>
                j1  w
              )
              )
            ) (Go.Value.int Go.IntKind.i64 0) w
          ) (
            j1  w
          )
        )
      )
    ) (fun  w => ∀ _ : Nat → Value,
    Does Try.prog (Instr.loadAt 38 a5) w fun t112 w =>
    Call Try.prog 56 #[t112] w fun t113 w =>
    Does Try.prog (Instr.extract t113 0) w fun t114 w =>
    Does Try.prog (Instr.extract t113 1) w fun t115 w =>
    NilCheckP t21 fun t117 =>
    Does Try.prog (Instr.fieldAt 84 t117 2) w fun t118 w =>
    Does Try.prog (Instr.loadAt 4 t118) w fun t119 w =>
    JoinP 1 (fun j6 => GuardP t119 false (
      Does Try.prog (eqE .neq 29 (Go.Operand.tmp 121) (Go.Operand.const (Go.Value.int Go.IntKind.i64 0)) t115 (Go.Value.int Go.IntKind.i64 0)) w fun t122 w =>
      j6 t122 w
    ) (j6 undef w))
    (fun t122 w => ∀ _ : Nat → Value,
    PickP t119 (Go.Value.bool true) t122 fun t123 =>
    JoinP 1 (fun j7 => GuardP t123 false (
      Call Try.prog 57 #[t114, a0] w fun t127 w =>
      Does Try.prog (Op.unary Go.UnOp.not t127) w fun t128 w =>
      j7 t128 w
    ) (j7 undef w))
    (fun t128 w => ∀ _ : Nat → Value,
    PickP t123 (Go.Value.bool true) t128 fun t129 =>
    CondP t129 (
      Does Try.prog (Instr.build 38 #[]) w fun t130 w =>
      Does Try.prog (Instr.storeAt 38 A2 t130) w fun _ w =>
      SameP Try.prog (loadRes 38 A2) w fun r0 =>
      R (Value.tuple #[r0, (Go.Value.int Go.IntKind.i64 4)]) w
    ) (
      Does Try.prog (Instr.loadAt 38 a5) w fun t131 w =>
      Does Try.prog (Instr.storeAt 38 A2 t131) w fun _ w =>
      SameP Try.prog (loadRes 38 A2) w fun r0 =>
      R (Value.tuple #[r0, (Go.Value.int Go.IntKind.i64 0)]) w
    )
    )
    )
    )
  )
theorem has15 : hasBody Try.prog 15 = true := by kernel_rfl
theorem vc15 {R : Value → World → Prop} {a0 : Value} {w : World} (h : V15 R a0 w) : Call Try.prog 15 #[a0] w R :=
  vc_of (args := [a0]) 132 ⟨lk [(11, [7]), (20, [11])], lkO [(25, [])], lk [(15, [4, 5, 8, 9]), (22, [4, 5])], lk [(15, []), (22, [])]⟩ Try.func15 rfl Try.ntmps15 rfl has15 mixed (Eq.mp (by kernel_rfl) h)

/-- (marline/marref6.Obj).Refs -/
def V16 (R : Value → World → Prop) (a0 : Value) (w : World) : Prop :=
  Does Try.prog (Instr.box 38 a0) w fun o1 w =>
  Does Try.prog (Instr.fieldAt 38 o1 0) w fun t5 w =>
  Does Try.prog (Instr.loadAt 3 t5) w fun t6 w =>
  Does Try.prog (eqE .eql 3 (Go.Operand.tmp 6) (Go.Operand.const (Go.Value.int Go.IntKind.i64 2)) t6 (Go.Value.int Go.IntKind.i64 2)) w fun t8 w =>
  CondP t8 (
    Rounds 2 (fun next1 out3 i4 w => ∀ _ : Nat → Value,
      Does Try.prog (Instr.fieldAt 38 o1 2) w fun t10 w =>
      Does Try.prog (Instr.loadAt 36 t10) w fun t11 w =>
      Does Try.prog (Builtin.len_ #[36] 3 #[t11]) w fun t12 w =>
      Does Try.prog (binOp .lss 3 i4 t12) w fun t13 w =>
      CondP t13 (
        Does Try.prog (Instr.fieldAt 38 o1 2) w fun t17 w =>
        Does Try.prog (Instr.loadAt 36 t17) w fun t18 w =>
        Does Try.prog (Instr.indexAt 36 t18 i4) w fun t20 w =>
        Does Try.prog (Instr.fieldAt 87 t20 2) w fun t21 w =>
        Does Try.prog (Instr.loadAt 9 t21) w fun t22 w =>
        Does Try.prog (Instr.buildSlice 23 1 #[(0, t22)]) w fun t23 w =>
        Does Try.prog (Builtin.append_ #[23, 23] 23 #[out3, t23]) w fun t24 w =>
        Does Try.prog (binOp .add 3 i4 (Go.Value.int Go.IntKind.i64 1)) w fun t15 w =>
        next1 t24 t15 w
      ) (
        R out3 w
      )
    ) (Go.Value.slice none 0 0) (Go.Value.int Go.IntKind.i64 0) w
  ) (
    Does Try.prog (eqE .eql 3 (Go.Operand.tmp 6) (Go.Operand.const (Go.Value.int Go.IntKind.i64 3)) t6 (Go.Value.int Go.IntKind.i64 3)) w fun t26 w =>
    CondP t26 (
      Does Try.prog (Instr.fieldAt 38 o1 3) w fun t27 w =>
      Does Try.prog (Instr.loadAt 9 t27) w fun t28 w =>
      Does Try.prog (Instr.buildSlice 23 1 #[(0, t28)]) w fun t29 w =>
      Does Try.prog (Instr.fieldAt 38 o1 4) w fun t30 w =>
      Does Try.prog (Instr.loadAt 23 t30) w fun t31 w =>
      Does Try.prog (Builtin.append_ #[23, 23] 23 #[t29, t31]) w fun t32 w =>
      R t32 w
    ) (
      R (Go.Value.slice none 0 0) w
    )
  )
theorem has16 : hasBody Try.prog 16 = true := by kernel_rfl
theorem vc16 {R : Value → World → Prop} {a0 : Value} {w : World} (h : V16 R a0 w) : Call Try.prog 16 #[a0] w R :=
  vc_of (args := [a0]) 34 ⟨lk [(5, [3, 4])], lkO [], lk [], lk []⟩ Try.func16 rfl Try.ntmps16 rfl has16 mixed (Eq.mp (by kernel_rfl) h)

/-- marline/reach.Whole -/
def V17 (R : Value → World → Prop) (a0 a1 a2 : Value) (w : World) : Prop :=
  Call Try.prog 10 #[a0, a1, a2] w fun t14 w =>
  Does Try.prog (Instr.extract t14 0) w fun t15 w =>
  Does Try.prog (Instr.extract t14 1) w fun t16 w =>
  Does Try.prog (Instr.extract t14 2) w fun t17 w =>
  Does Try.prog (eqE .eql 29 (Go.Operand.tmp 18) (Go.Operand.const (Go.Value.int Go.IntKind.i64 0)) t17 (Go.Value.int Go.IntKind.i64 0)) w fun t19 w =>
  JoinP 1 (fun j1 => GuardP t19 true (
    Does Try.prog (Builtin.len_ #[23] 3 #[t16]) w fun t22 w =>
    Does Try.prog (eqE .eql 3 (Go.Operand.tmp 22) (Go.Operand.const (Go.Value.int Go.IntKind.i64 0)) t22 (Go.Value.int Go.IntKind.i64 0)) w fun t23 w =>
    j1 t23 w
  ) (j1 undef w))
  (fun t23 w => ∀ _ : Nat → Value,
  PickP t19 t23 (Go.Value.bool false) fun t24 =>
  R t24 w
  )
theorem has17 : hasBody Try.prog 17 = true := by kernel_rfl
theorem vc17 {R : Value → World → Prop} {a0 a1 a2 : Value} {w : World} (h : V17 R a0 a1 a2 w) : Call Try.prog 17 #[a0, a1, a2] w R :=
  vc_of (args := [a0, a1, a2]) 25 ⟨lk [], lkO [], lk [], lk []⟩ Try.func17 rfl Try.ntmps17 rfl has17 mixed (Eq.mp (by kernel_rfl) h)

/-- marline/marlaw11.first -/
def V18 (R : Value → World → Prop) (w : World) : Prop :=
  Call Try.prog 19 #[] w fun t4 w =>
  Does Try.prog (eqE .eql 45 (Go.Operand.tmp 5) (Go.Operand.const (Go.Value.pointer none)) t4 (Go.Value.pointer none)) w fun t6 w =>
  CondP t6 (
    R (Go.Value.bool false) w
  ) (
    Call Try.prog 22 #[t4, (Go.Value.string { data := #[65] }), (Go.Value.slice none 0 0), (Go.Value.int Go.IntKind.i64 0)] w fun t8 w =>
    Does Try.prog (Instr.buildSlice 23 1 #[(0, (Go.Value.string { data := #[65] }))]) w fun t10 w =>
    Call Try.prog 22 #[t4, (Go.Value.string { data := #[66] }), t10, (Go.Value.int Go.IntKind.i64 1)] w fun t11 w =>
    Does Try.prog (Instr.buildSlice 23 1 #[(0, (Go.Value.string { data := #[65] }))]) w fun t13 w =>
    Call Try.prog 22 #[t4, (Go.Value.string { data := #[67] }), t13, (Go.Value.int Go.IntKind.i64 1)] w fun t14 w =>
    Does Try.prog (Instr.buildSlice 23 2 #[(0, (Go.Value.string { data := #[66] })), (1, (Go.Value.string { data := #[67] }))]) w fun t16 w =>
    Call Try.prog 22 #[t4, (Go.Value.string { data := #[68] }), t16, (Go.Value.int Go.IntKind.i64 2)] w fun t17 w =>
    Does Try.prog (Instr.buildSlice 23 2 #[(0, (Go.Value.string { data := #[66] })), (1, (Go.Value.string { data := #[67] }))]) w fun t19 w =>
    Call Try.prog 22 #[t4, (Go.Value.string { data := #[69] }), t19, (Go.Value.int Go.IntKind.i64 2)] w fun t20 w =>
    Does Try.prog (Instr.buildSlice 23 1 #[(0, (Go.Value.string { data := #[68] }))]) w fun t23 w =>
    Call Try.prog 34 #[t4, t23, (Go.Value.string { data := #[69] })] w fun t24 w =>
    Does Try.prog (Instr.extract t24 0) w fun t25 w =>
    Does Try.prog (Instr.extract t24 1) w fun t26 w =>
    Does Try.prog (eqE .eql 29 (Go.Operand.tmp 27) (Go.Operand.const (Go.Value.int Go.IntKind.i64 0)) t26 (Go.Value.int Go.IntKind.i64 0)) w fun t28 w =>
    JoinP 1 (fun j1 => GuardP t28 true (
      Does Try.prog (Instr.buildSlice 23 2 #[(0, (Go.Value.string { data := #[66] })), (1, (Go.Value.string { data := #[67] }))]) w fun t31 w =>
      Call Try.prog 24 #[t25, t31] w fun t32 w =>
      j1 t32 w
    ) (j1 undef w))
    (fun t32 w => ∀ _ : Nat → Value,
    PickP t28 t32 (Go.Value.bool false) fun t33 =>
    R t33 w
    )
  )
theorem has18 : hasBody Try.prog 18 = true := by kernel_rfl
theorem vc18 {R : Value → World → Prop} {_u : Unit} {w : World} (h : V18 R  w) : Call Try.prog 18 #[] w R :=
  vc_of (args := []) 34 ⟨lk [], lkO [], lk [], lk []⟩ Try.func18 rfl Try.ntmps18 rfl has18 mixed (Eq.mp (by kernel_rfl) h)

/-- marline/dag.New -/
def V19 (R : Value → World → Prop) (w : World) : Prop :=
  Does Try.prog (Instr.makeMap 90 none) w fun t1 w =>
  Does Try.prog (Instr.build 92 #[(0, t1)]) w fun t2 w =>
  Does Try.prog (Instr.box 92 t2) w fun t3 w =>
  R t3 w
theorem has19 : hasBody Try.prog 19 = true := by kernel_rfl
theorem vc19 {R : Value → World → Prop} {_u : Unit} {w : World} (h : V19 R  w) : Call Try.prog 19 #[] w R :=
  vc_of (args := []) 4 ⟨lk [], lkO [], lk [], lk []⟩ Try.func19 rfl Try.ntmps19 rfl has19 mixed (Eq.mp (by kernel_rfl) h)

/-- marline/marlaw11.Few -/
def V20 (R : Value → World → Prop) (a0 : Value) (w : World) : Prop :=
  Rounds 1 (fun next1 i3 w => ∀ _ : Nat → Value,
    Does Try.prog (Builtin.len_ #[44] 3 #[a0]) w fun t7 w =>
    Does Try.prog (binOp .lss 3 i3 t7) w fun t8 w =>
    JoinP 1 (fun j2 => GuardP t8 true (
      Does Try.prog (binOp .lss 3 i3 (Go.Value.int Go.IntKind.i64 40)) w fun t11 w =>
      j2 t11 w
    ) (j2 undef w))
    (fun t11 w => ∀ _ : Nat → Value,
    PickP t8 t11 (Go.Value.bool false) fun t12 =>
    CondP t12 (
      Does Try.prog (Instr.indexAt 44 a0 i3) w fun t17 w =>
      Does Try.prog (Instr.fieldAt 54 t17 0) w fun t18 w =>
      Does Try.prog (Instr.loadAt 9 t18) w fun t19 w =>
      Does Try.prog (Builtin.len_ #[9] 3 #[t19]) w fun t20 w =>
      Does Try.prog (binOp .gtr 3 t20 (Go.Value.int Go.IntKind.i64 100)) w fun t21 w =>
      JoinP 1 (fun j3 => GuardP t21 false (
        Does Try.prog (Instr.indexAt 44 a0 i3) w fun t25 w =>
        Does Try.prog (Instr.fieldAt 54 t25 1) w fun t26 w =>
        Does Try.prog (Instr.loadAt 23 t26) w fun t27 w =>
        Does Try.prog (Builtin.len_ #[23] 3 #[t27]) w fun t28 w =>
        Does Try.prog (binOp .gtr 3 t28 (Go.Value.int Go.IntKind.i64 8)) w fun t29 w =>
        j3 t29 w
      ) (j3 undef w))
      (fun t29 w => ∀ _ : Nat → Value,
      PickP t21 (Go.Value.bool true) t29 fun t30 =>
      CondP t30 (
        R (Go.Value.bool false) w
      ) (
        Rounds 1 (fun next4 k4 w => ∀ _ : Nat → Value,
          Does Try.prog (Instr.indexAt 44 a0 i3) w fun t34 w =>
          Does Try.prog (Instr.fieldAt 54 t34 1) w fun t35 w =>
          Does Try.prog (Instr.loadAt 23 t35) w fun t36 w =>
          Does Try.prog (Builtin.len_ #[23] 3 #[t36]) w fun t37 w =>
          Does Try.prog (binOp .lss 3 k4 t37) w fun t38 w =>
          CondP t38 (
            Does Try.prog (Instr.indexAt 44 a0 i3) w fun t43 w =>
            Does Try.prog (Instr.fieldAt 54 t43 1) w fun t44 w =>
            Does Try.prog (Instr.loadAt 23 t44) w fun t45 w =>
            Does Try.prog (Instr.indexAt 23 t45 k4) w fun t47 w =>
            Does Try.prog (Instr.loadAt 9 t47) w fun t48 w =>
            Does Try.prog (Builtin.len_ #[9] 3 #[t48]) w fun t49 w =>
            Does Try.prog (binOp .gtr 3 t49 (Go.Value.int Go.IntKind.i64 100)) w fun t50 w =>
            CondP t50 (
              R (Go.Value.bool false) w
            ) (
              Does Try.prog (binOp .add 3 k4 (Go.Value.int Go.IntKind.i64 1)) w fun t40 w =>
              next4 t40 w
            )
          ) (
            Does Try.prog (binOp .add 3 i3 (Go.Value.int Go.IntKind.i64 1)) w fun t14 w =>
            next1 t14 w
          )
        ) (Go.Value.int Go.IntKind.i64 0) w
      )
      )
    ) (
      Does Try.prog (Builtin.len_ #[44] 3 #[a0]) w fun t52 w =>
      Does Try.prog (binOp .leq 3 t52 (Go.Value.int Go.IntKind.i64 40)) w fun t53 w =>
      R t53 w
    )
    )
  ) (Go.Value.int Go.IntKind.i64 0) w
theorem has20 : hasBody Try.prog 20 = true := by kernel_rfl
theorem vc20 {R : Value → World → Prop} {a0 : Value} {w : World} (h : V20 R a0 w) : Call Try.prog 20 #[a0] w R :=
  vc_of (args := [a0]) 54 ⟨lk [(2, [3]), (7, [4])], lkO [], lk [], lk []⟩ Try.func20 rfl Try.ntmps20 rfl has20 mixed (Eq.mp (by kernel_rfl) h)

/-- marline/marlaw11.few -/
def V21 (R : Value → World → Prop) (a0 : Value) (w : World) : Prop :=
  Rounds 1 (fun next1 i3 w => ∀ _ : Nat → Value,
    Does Try.prog (Builtin.len_ #[23] 3 #[a0]) w fun t6 w =>
    Does Try.prog (binOp .lss 3 i3 t6) w fun t7 w =>
    JoinP 1 (fun j2 => GuardP t7 true (
      Does Try.prog (binOp .lss 3 i3 (Go.Value.int Go.IntKind.i64 20)) w fun t10 w =>
      j2 t10 w
    ) (j2 undef w))
    (fun t10 w => ∀ _ : Nat → Value,
    PickP t7 t10 (Go.Value.bool false) fun t11 =>
    CondP t11 (
      Does Try.prog (Instr.indexAt 23 a0 i3) w fun t16 w =>
      Does Try.prog (Instr.loadAt 9 t16) w fun t17 w =>
      Does Try.prog (Builtin.len_ #[9] 3 #[t17]) w fun t18 w =>
      Does Try.prog (binOp .gtr 3 t18 (Go.Value.int Go.IntKind.i64 100)) w fun t19 w =>
      CondP t19 (
        R (Go.Value.bool false) w
      ) (
        Does Try.prog (binOp .add 3 i3 (Go.Value.int Go.IntKind.i64 1)) w fun t13 w =>
        next1 t13 w
      )
    ) (
      Does Try.prog (Builtin.len_ #[23] 3 #[a0]) w fun t21 w =>
      Does Try.prog (binOp .leq 3 t21 (Go.Value.int Go.IntKind.i64 20)) w fun t22 w =>
      R t22 w
    )
    )
  ) (Go.Value.int Go.IntKind.i64 0) w
theorem has21 : hasBody Try.prog 21 = true := by kernel_rfl
theorem vc21 {R : Value → World → Prop} {a0 : Value} {w : World} (h : V21 R a0 w) : Call Try.prog 21 #[a0] w R :=
  vc_of (args := [a0]) 23 ⟨lk [(2, [3])], lkO [], lk [], lk []⟩ Try.func21 rfl Try.ntmps21 rfl has21 mixed (Eq.mp (by kernel_rfl) h)

/-- (*marline/dag.Graph).Add -/
def V22 (R : Value → World → Prop) (a0 a1 a2 a3 : Value) (w : World) : Prop :=
  Does Try.prog (eqE .eql 9 (Go.Operand.tmp 13) (Go.Operand.const (Go.Value.string { data := #[] })) a1 (Go.Value.string { data := #[] })) w fun t14 w =>
  CondP t14 (
    R (Go.Value.int Go.IntKind.i64 6) w
  ) (
    Call Try.prog 26 #[a0, a1] w fun t18 w =>
    CondP t18 (
      R (Go.Value.int Go.IntKind.i64 8) w
    ) (
      Does Try.prog (Builtin.len_ #[23] 3 #[a2]) w fun t20 w =>
      Rounds 2 (fun next1 top9 t21 w => ∀ _ : Nat → Value,
        Does Try.prog (binOp .lss 3 t21 t20) w fun t22 w =>
        CondP t22 (
          Does Try.prog (Instr.indexAt 23 a2 t21) w fun t23 w =>
          Does Try.prog (Instr.loadAt 9 t23) w fun t24 w =>
          Call Try.prog 26 #[a0, t24] w fun t27 w =>
          Does Try.prog (Op.unary Go.UnOp.not t27) w fun t28 w =>
          CondP t28 (
            R (Go.Value.int Go.IntKind.i64 7) w
          ) (
            NilCheckP a0 fun t31 =>
            Does Try.prog (Instr.fieldAt 92 t31 0) w fun t32 w =>
            Does Try.prog (Instr.loadAt 90 t32) w fun t33 w =>
            Does Try.prog (Instr.lookup 90 t33 t24 false) w fun t35 w =>
            Does Try.prog (Instr.field 94 t35 1) w fun t36 w =>
            Does Try.prog (Builtin.max_ #[3, 3] 3 #[top9, t36]) w fun t37 w =>
            Does Try.prog (binOp .add 3 t21 (Go.Value.int Go.IntKind.i64 1)) w fun t38 w =>
            next1 t37 t38 w
          )
        ) (
          Does Try.prog (binOp .leq 3 a3 top9) w fun t42 w =>
          CondP t42 (
            R (Go.Value.int Go.IntKind.i64 1) w
          ) (
            NilCheckP a0 fun t45 =>
            Does Try.prog (Instr.fieldAt 92 t45 0) w fun t46 w =>
            Does Try.prog (Instr.loadAt 90 t46) w fun t47 w =>
            Does Try.prog (Builtin.len_ #[90] 3 #[t47]) w fun t48 w =>
            Does Try.prog (binOp .geq 3 t48 (Go.Value.int Go.IntKind.i64 2000)) w fun t49 w =>
            CondP t49 (
              R (Go.Value.int Go.IntKind.i64 14) w
            ) (
              DrawP Try.prog 59 (opsOf Try.f22 17) [0, 1, 2, 3] [a0, a1, a2, a3] [] (fun  w => ∀ _ : Nat → Value,
              R (Go.Value.int Go.IntKind.i64 0) w
) w
            )
          )
        )
      ) (Go.Value.int Go.IntKind.i64 (-1)) (Go.Value.int Go.IntKind.i64 0) w
    )
  )
theorem has22 : hasBody Try.prog 22 = true := by kernel_rfl
theorem vc22 {R : Value → World → Prop} {a0 a1 a2 a3 : Value} {w : World} (h : V22 R a0 a1 a2 a3 w) : Call Try.prog 22 #[a0, a1, a2, a3] w R :=
  vc_of (args := [a0, a1, a2, a3]) 59 ⟨lk [(7, [9, 21])], lkO [], lk [(17, [0, 1, 2, 3])], lk [(17, [])]⟩ Try.func22 rfl Try.ntmps22 rfl has22 mixed (Eq.mp (by kernel_rfl) h)

/-- (*marline/marref9.Graph).Add -/
def V23 (R : Value → World → Prop) (a0 a1 a2 a3 : Value) (w : World) : Prop :=
  Does Try.prog (eqE .eql 9 (Go.Operand.tmp 11) (Go.Operand.const (Go.Value.string { data := #[] })) a1 (Go.Value.string { data := #[] })) w fun t12 w =>
  CondP t12 (
    R (Go.Value.int Go.IntKind.i64 6) w
  ) (
    Call Try.prog 59 #[a0, a1] w fun t15 w =>
    Does Try.prog (binOp .geq 3 t15 (Go.Value.int Go.IntKind.i64 0)) w fun t16 w =>
    CondP t16 (
      R (Go.Value.int Go.IntKind.i64 8) w
    ) (
      Rounds 1 (fun next1 t9 w => ∀ _ : Nat → Value,
        Does Try.prog (Builtin.len_ #[23] 3 #[a2]) w fun t19 w =>
        Does Try.prog (binOp .lss 3 t9 t19) w fun t20 w =>
        CondP t20 (
          Does Try.prog (Instr.indexAt 23 a2 t9) w fun t26 w =>
          Does Try.prog (Instr.loadAt 9 t26) w fun t27 w =>
          Call Try.prog 59 #[a0, t27] w fun t28 w =>
          Does Try.prog (binOp .lss 3 t28 (Go.Value.int Go.IntKind.i64 0)) w fun t29 w =>
          CondP t29 (
            R (Go.Value.int Go.IntKind.i64 7) w
          ) (
            Does Try.prog (binOp .add 3 t9 (Go.Value.int Go.IntKind.i64 1)) w fun t22 w =>
            next1 t22 w
          )
        ) (
          Rounds 1 (fun next2 t10 w => ∀ _ : Nat → Value,
            Does Try.prog (Builtin.len_ #[23] 3 #[a2]) w fun t32 w =>
            Does Try.prog (binOp .lss 3 t10 t32) w fun t33 w =>
            CondP t33 (
              DrawP Try.prog 89 (opsOf Try.f23 13) [0, 2, 3, 10] [a0, a2, a3, t10] [49] (fun t49 w => ∀ _ : Nat → Value,
              CondP t49 (
                R (Go.Value.int Go.IntKind.i64 1) w
              ) (
                Does Try.prog (binOp .add 3 t10 (Go.Value.int Go.IntKind.i64 1)) w fun t35 w =>
                next2 t35 w
              )
) w
            ) (
              Does Try.prog (binOp .lss 3 a3 (Go.Value.int Go.IntKind.i64 0)) w fun t51 w =>
              CondP t51 (
                R (Go.Value.int Go.IntKind.i64 1) w
              ) (
                NilCheckP a0 fun t53 =>
                Does Try.prog (Instr.fieldAt 52 t53 0) w fun t54 w =>
                Does Try.prog (Instr.loadAt 23 t54) w fun t55 w =>
                Does Try.prog (Builtin.len_ #[23] 3 #[t55]) w fun t56 w =>
                Does Try.prog (binOp .geq 3 t56 (Go.Value.int Go.IntKind.i64 2000)) w fun t57 w =>
                CondP t57 (
                  R (Go.Value.int Go.IntKind.i64 14) w
                ) (
                  DrawP Try.prog 89 (opsOf Try.f23 19) [0, 1, 2, 3] [a0, a1, a2, a3] [] (fun  w => ∀ _ : Nat → Value,
                  R (Go.Value.int Go.IntKind.i64 0) w
) w
                )
              )
            )
          ) (Go.Value.int Go.IntKind.i64 0) w
        )
      ) (Go.Value.int Go.IntKind.i64 0) w
    )
  )
theorem has23 : hasBody Try.prog 23 = true := by kernel_rfl
theorem vc23 {R : Value → World → Prop} {a0 a1 a2 a3 : Value} {w : World} (h : V23 R a0 a1 a2 a3 w) : Call Try.prog 23 #[a0, a1, a2, a3] w R :=
  vc_of (args := [a0, a1, a2, a3]) 89 ⟨lk [(6, [9]), (11, [10])], lkO [], lk [(13, [0, 2, 3, 10]), (19, [0, 1, 2, 3])], lk [(13, [49]), (19, [])]⟩ Try.func23 rfl Try.ntmps23 rfl has23 mixed (Eq.mp (by kernel_rfl) h)

/-- marline/marref.Texts -/
def V24 (R : Value → World → Prop) (a0 a1 : Value) (w : World) : Prop :=
  Does Try.prog (Builtin.len_ #[23] 3 #[a0]) w fun t7 w =>
  Does Try.prog (Builtin.len_ #[23] 3 #[a1]) w fun t9 w =>
  Does Try.prog (eqE .neq 3 (Go.Operand.tmp 7) (Go.Operand.tmp 9) t7 t9) w fun t10 w =>
  CondP t10 (
    R (Go.Value.bool false) w
  ) (
    Rounds 1 (fun next1 i5 w => ∀ _ : Nat → Value,
      Does Try.prog (Builtin.len_ #[23] 3 #[a0]) w fun t13 w =>
      Does Try.prog (binOp .lss 3 i5 t13) w fun t14 w =>
      CondP t14 (
        DrawP Try.prog 26 (opsOf Try.f24 6) [0, 1, 5] [a0, a1, i5] [25] (fun t25 w => ∀ _ : Nat → Value,
        CondP t25 (
          R (Go.Value.bool false) w
        ) (
          Does Try.prog (binOp .add 3 i5 (Go.Value.int Go.IntKind.i64 1)) w fun t16 w =>
          next1 t16 w
        )
) w
      ) (
        R (Go.Value.bool true) w
      )
    ) (Go.Value.int Go.IntKind.i64 0) w
  )
theorem has24 : hasBody Try.prog 24 = true := by kernel_rfl
theorem vc24 {R : Value → World → Prop} {a0 a1 : Value} {w : World} (h : V24 R a0 a1 w) : Call Try.prog 24 #[a0, a1] w R :=
  vc_of (args := [a0, a1]) 26 ⟨lk [(4, [5])], lkO [], lk [(6, [0, 1, 5])], lk [(6, [25])]⟩ Try.func24 rfl Try.ntmps24 rfl has24 mixed (Eq.mp (by kernel_rfl) h)

/-- (*marline/dag.Graph).Len -/
def V25 (R : Value → World → Prop) (a0 : Value) (w : World) : Prop :=
  NilCheckP a0 fun t4 =>
  Does Try.prog (Instr.fieldAt 92 t4 0) w fun t5 w =>
  Does Try.prog (Instr.loadAt 90 t5) w fun t6 w =>
  Does Try.prog (Builtin.len_ #[90] 3 #[t6]) w fun t7 w =>
  R t7 w
theorem has25 : hasBody Try.prog 25 = true := by kernel_rfl
theorem vc25 {R : Value → World → Prop} {a0 : Value} {w : World} (h : V25 R a0 w) : Call Try.prog 25 #[a0] w R :=
  vc_of (args := [a0]) 8 ⟨lk [], lkO [], lk [], lk []⟩ Try.func25 rfl Try.ntmps25 rfl has25 mixed (Eq.mp (by kernel_rfl) h)

/-- (*marline/dag.Graph).Has -/
def V26 (R : Value → World → Prop) (a0 a1 : Value) (w : World) : Prop :=
  NilCheckP a0 fun t9 =>
  Does Try.prog (Instr.fieldAt 92 t9 0) w fun t10 w =>
  Does Try.prog (Instr.loadAt 90 t10) w fun t11 w =>
  Does Try.prog (Instr.lookup 90 t11 a1 true) w fun t13 w =>
  Does Try.prog (Instr.extract t13 0) w fun t14 w =>
  Does Try.prog (Instr.extract t13 1) w fun t15 w =>
  Does Try.prog (Instr.alloc 94 true (.tuple #[])) w fun t5 w =>
  Does Try.prog (Instr.storeAt 94 t5 t14) w fun _ w =>
  R t15 w
theorem has26 : hasBody Try.prog 26 = true := by kernel_rfl
theorem vc26 {R : Value → World → Prop} {a0 a1 : Value} {w : World} (h : V26 R a0 a1 w) : Call Try.prog 26 #[a0, a1] w R :=
  vc_of (args := [a0, a1]) 17 ⟨lk [], lkO [], lk [], lk []⟩ Try.func26 rfl Try.ntmps26 rfl has26 mixed (Eq.mp (by kernel_rfl) h)

/-- (*marline/marref9.Graph).Has -/
def V27 (R : Value → World → Prop) (a0 a1 : Value) (w : World) : Prop :=
  Call Try.prog 59 #[a0, a1] w fun t7 w =>
  Does Try.prog (binOp .geq 3 t7 (Go.Value.int Go.IntKind.i64 0)) w fun t8 w =>
  R t8 w
theorem has27 : hasBody Try.prog 27 = true := by kernel_rfl
theorem vc27 {R : Value → World → Prop} {a0 a1 : Value} {w : World} (h : V27 R a0 a1 w) : Call Try.prog 27 #[a0, a1] w R :=
  vc_of (args := [a0, a1]) 9 ⟨lk [], lkO [], lk [], lk []⟩ Try.func27 rfl Try.ntmps27 rfl has27 mixed (Eq.mp (by kernel_rfl) h)

/-- (*marline/dag.Graph).Stamp -/
def V28 (R : Value → World → Prop) (a0 a1 : Value) (w : World) : Prop :=
  Call Try.prog 26 #[a0, a1] w fun t7 w =>
  Does Try.prog (Op.unary Go.UnOp.not t7) w fun t8 w =>
  CondP t8 (
    R (Go.Value.int Go.IntKind.i64 (-1)) w
  ) (
    NilCheckP a0 fun t10 =>
    Does Try.prog (Instr.fieldAt 92 t10 0) w fun t11 w =>
    Does Try.prog (Instr.loadAt 90 t11) w fun t12 w =>
    Does Try.prog (Instr.lookup 90 t12 a1 false) w fun t14 w =>
    Does Try.prog (Instr.field 94 t14 1) w fun t15 w =>
    R t15 w
  )
theorem has28 : hasBody Try.prog 28 = true := by kernel_rfl
theorem vc28 {R : Value → World → Prop} {a0 a1 : Value} {w : World} (h : V28 R a0 a1 w) : Call Try.prog 28 #[a0, a1] w R :=
  vc_of (args := [a0, a1]) 16 ⟨lk [], lkO [], lk [], lk []⟩ Try.func28 rfl Try.ntmps28 rfl has28 mixed (Eq.mp (by kernel_rfl) h)

/-- (*marline/marref9.Graph).Stamp -/
def V29 (R : Value → World → Prop) (a0 a1 : Value) (w : World) : Prop :=
  Call Try.prog 27 #[a0, a1] w fun t7 w =>
  Does Try.prog (Op.unary Go.UnOp.not t7) w fun t8 w =>
  CondP t8 (
    R (Go.Value.int Go.IntKind.i64 (-1)) w
  ) (
    DrawP Try.prog 18 (opsOf Try.f29 3) [0, 1] [a0, a1] [4] (fun t4 w => ∀ _ : Nat → Value,
    R t4 w
) w
  )
theorem has29 : hasBody Try.prog 29 = true := by kernel_rfl
theorem vc29 {R : Value → World → Prop} {a0 a1 : Value} {w : World} (h : V29 R a0 a1 w) : Call Try.prog 29 #[a0, a1] w R :=
  vc_of (args := [a0, a1]) 18 ⟨lk [], lkO [], lk [(3, [0, 1])], lk [(3, [4])]⟩ Try.func29 rfl Try.ntmps29 rfl has29 mixed (Eq.mp (by kernel_rfl) h)

/-- (*marline/dag.Graph).Parents -/
def V30 (R : Value → World → Prop) (a0 a1 : Value) (w : World) : Prop :=
  NilCheckP a0 fun t6 =>
  Does Try.prog (Instr.fieldAt 92 t6 0) w fun t7 w =>
  Does Try.prog (Instr.loadAt 90 t7) w fun t8 w =>
  Does Try.prog (Instr.lookup 90 t8 a1 false) w fun t10 w =>
  Does Try.prog (Instr.field 94 t10 0) w fun t11 w =>
  Call Try.prog 48 #[t11] w fun t12 w =>
  R t12 w
theorem has30 : hasBody Try.prog 30 = true := by kernel_rfl
theorem vc30 {R : Value → World → Prop} {a0 a1 : Value} {w : World} (h : V30 R a0 a1 w) : Call Try.prog 30 #[a0, a1] w R :=
  vc_of (args := [a0, a1]) 13 ⟨lk [], lkO [], lk [], lk []⟩ Try.func30 rfl Try.ntmps30 rfl has30 mixed (Eq.mp (by kernel_rfl) h)

/-- (*marline/marref9.Graph).Parents -/
def V31 (R : Value → World → Prop) (a0 a1 : Value) (w : World) : Prop :=
  Call Try.prog 27 #[a0, a1] w fun t7 w =>
  Does Try.prog (Op.unary Go.UnOp.not t7) w fun t8 w =>
  CondP t8 (
    R (Go.Value.slice none 0 0) w
  ) (
    DrawP Try.prog 19 (opsOf Try.f31 3) [0, 1] [a0, a1] [4] (fun t4 w => ∀ _ : Nat → Value,
    R t4 w
) w
  )
theorem has31 : hasBody Try.prog 31 = true := by kernel_rfl
theorem vc31 {R : Value → World → Prop} {a0 a1 : Value} {w : World} (h : V31 R a0 a1 w) : Call Try.prog 31 #[a0, a1] w R :=
  vc_of (args := [a0, a1]) 19 ⟨lk [], lkO [], lk [(3, [0, 1])], lk [(3, [4])]⟩ Try.func31 rfl Try.ntmps31 rfl has31 mixed (Eq.mp (by kernel_rfl) h)

/-- (*marline/dag.Graph).Ancestors -/
def V32 (R : Value → World → Prop) (a0 a1 : Value) (w : World) : Prop :=
  Call Try.prog 60 #[a0, a1] w fun t11 w =>
  Does Try.prog (Instr.extract t11 0) w fun t12 w =>
  Does Try.prog (Instr.extract t11 1) w fun t13 w =>
  Call Try.prog 61 #[t12] w fun t15 w =>
  R (Value.tuple #[t15, t13]) w
theorem has32 : hasBody Try.prog 32 = true := by kernel_rfl
theorem vc32 {R : Value → World → Prop} {a0 a1 : Value} {w : World} (h : V32 R a0 a1 w) : Call Try.prog 32 #[a0, a1] w R :=
  vc_of (args := [a0, a1]) 17 ⟨lk [], lkO [], lk [], lk []⟩ Try.func32 rfl Try.ntmps32 rfl has32 mixed (Eq.mp (by kernel_rfl) h)

/-- (*marline/marref9.Graph).Ancestors -/
def V33 (R : Value → World → Prop) (a0 a1 : Value) (w : World) : Prop :=
  NilCheckP a0 fun t12 =>
  Does Try.prog (Instr.fieldAt 52 t12 0) w fun t13 w =>
  Does Try.prog (Instr.loadAt 23 t13) w fun t14 w =>
  Does Try.prog (Builtin.len_ #[23] 3 #[t14]) w fun t15 w =>
  Does Try.prog (Instr.makeSlice 50 t15 t15) w fun t16 w =>
  Rounds 1 (fun next1 t7 w => ∀ _ : Nat → Value,
    Does Try.prog (Builtin.len_ #[23] 3 #[a1]) w fun t19 w =>
    Does Try.prog (binOp .lss 3 t7 t19) w fun t20 w =>
    CondP t20 (
      Does Try.prog (Instr.indexAt 23 a1 t7) w fun t26 w =>
      Does Try.prog (Instr.loadAt 9 t26) w fun t27 w =>
      Call Try.prog 27 #[a0, t27] w fun t28 w =>
      Does Try.prog (Op.unary Go.UnOp.not t28) w fun t29 w =>
      CondP t29 (
        R (Value.tuple #[(Go.Value.slice none 0 0), (Go.Value.int Go.IntKind.i64 7)]) w
      ) (
        Does Try.prog (Instr.indexAt 23 a1 t7) w fun t34 w =>
        Does Try.prog (Instr.loadAt 9 t34) w fun t35 w =>
        Call Try.prog 59 #[a0, t35] w fun t36 w =>
        Does Try.prog (Instr.indexAt 50 t16 t36) w fun t37 w =>
        Does Try.prog (Instr.storeAt 3 t37 (Go.Value.int Go.IntKind.i64 1)) w fun _ w =>
        Does Try.prog (binOp .add 3 t7 (Go.Value.int Go.IntKind.i64 1)) w fun t22 w =>
        next1 t22 w
      )
    ) (
      NilCheckP a0 fun t39 =>
      Does Try.prog (Instr.fieldAt 52 t39 0) w fun t40 w =>
      Does Try.prog (Instr.loadAt 23 t40) w fun t41 w =>
      Does Try.prog (Builtin.len_ #[23] 3 #[t41]) w fun t42 w =>
      Does Try.prog (binOp .sub 3 t42 (Go.Value.int Go.IntKind.i64 1)) w fun t43 w =>
      Rounds 2 (fun next2 t8 t9 w => ∀ _ : Nat → Value,
        Does Try.prog (binOp .geq 3 t9 (Go.Value.int Go.IntKind.i64 0)) w fun t45 w =>
        CondP t45 (
          Does Try.prog (Instr.indexAt 50 t16 t9) w fun t50 w =>
          Does Try.prog (Instr.loadAt 3 t50) w fun t51 w =>
          Does Try.prog (eqE .eql 3 (Go.Operand.tmp 51) (Go.Operand.const (Go.Value.int Go.IntKind.i64 0)) t51 (Go.Value.int Go.IntKind.i64 0)) w fun t52 w =>
          CondP t52 (
            Does Try.prog (binOp .sub 3 t9 (Go.Value.int Go.IntKind.i64 1)) w fun t47 w =>
            next2 t8 t47 w
          ) (
            NilCheckP a0 fun t55 =>
            Does Try.prog (Instr.fieldAt 52 t55 0) w fun t56 w =>
            Does Try.prog (Instr.loadAt 23 t56) w fun t57 w =>
            Does Try.prog (Instr.indexAt 23 t57 t9) w fun t59 w =>
            Does Try.prog (Instr.loadAt 9 t59) w fun t60 w =>
            Does Try.prog (Instr.buildSlice 23 1 #[(0, t60)]) w fun t61 w =>
            Does Try.prog (Builtin.append_ #[23, 23] 23 #[t8, t61]) w fun t62 w =>
            Rounds 1 (fun next3 t10 w => ∀ _ : Nat → Value,
              NilCheckP a0 fun t65 =>
              Does Try.prog (Instr.fieldAt 52 t65 1) w fun t66 w =>
              Does Try.prog (Instr.loadAt 49 t66) w fun t67 w =>
              Does Try.prog (Instr.indexAt 49 t67 t9) w fun t69 w =>
              Does Try.prog (Instr.loadAt 23 t69) w fun t70 w =>
              Does Try.prog (Builtin.len_ #[23] 3 #[t70]) w fun t71 w =>
              Does Try.prog (binOp .lss 3 t10 t71) w fun t72 w =>
              CondP t72 (
                NilCheckP a0 fun t78 =>
                Does Try.prog (Instr.fieldAt 52 t78 1) w fun t79 w =>
                Does Try.prog (Instr.loadAt 49 t79) w fun t80 w =>
                Does Try.prog (Instr.indexAt 49 t80 t9) w fun t82 w =>
                Does Try.prog (Instr.loadAt 23 t82) w fun t83 w =>
                Does Try.prog (Instr.indexAt 23 t83 t10) w fun t85 w =>
                Does Try.prog (Instr.loadAt 9 t85) w fun t86 w =>
                Call Try.prog 59 #[a0, t86] w fun t87 w =>
                Does Try.prog (Instr.indexAt 50 t16 t87) w fun t88 w =>
                Does Try.prog (Instr.storeAt 3 t88 (Go.Value.int Go.IntKind.i64 1)) w fun _ w =>
                Does Try.prog (binOp .add 3 t10 (Go.Value.int Go.IntKind.i64 1)) w fun t74 w =>
                next3 t74 w
              ) (
                Does Try.prog (binOp .sub 3 t9 (Go.Value.int Go.IntKind.i64 1)) w fun t47 w =>
                next2 t62 t47 w
              )
            ) (Go.Value.int Go.IntKind.i64 0) w
          )
        ) (
          Call Try.prog 13 #[t8] w fun t90 w =>
          R (Value.tuple #[t90, (Go.Value.int Go.IntKind.i64 0)]) w
        )
      ) (Go.Value.slice none 0 0) t43 w
    )
  ) (Go.Value.int Go.IntKind.i64 0) w
theorem has33 : hasBody Try.prog 33 = true := by kernel_rfl
theorem vc33 {R : Value → World → Prop} {a0 a1 : Value} {w : World} (h : V33 R a0 a1 w) : Call Try.prog 33 #[a0, a1] w R :=
  vc_of (args := [a0, a1]) 91 ⟨lk [(3, [7]), (10, [8, 9]), (15, [10])], lkO [], lk [], lk []⟩ Try.func33 rfl Try.ntmps33 rfl has33 mixed (Eq.mp (by kernel_rfl) h)

/-- (*marline/dag.Graph).Bases -/
def V34 (R : Value → World → Prop) (a0 a1 a2 : Value) (w : World) : Prop :=
  Call Try.prog 60 #[a0, a1] w fun t18 w =>
  Does Try.prog (Instr.extract t18 0) w fun t19 w =>
  Does Try.prog (Instr.extract t18 1) w fun t20 w =>
  Does Try.prog (eqE .neq 29 (Go.Operand.tmp 21) (Go.Operand.const (Go.Value.int Go.IntKind.i64 0)) t20 (Go.Value.int Go.IntKind.i64 0)) w fun t22 w =>
  CondP t22 (
    R (Value.tuple #[(Go.Value.slice none 0 0), t20]) w
  ) (
    Does Try.prog (Instr.buildSlice 23 1 #[(0, a2)]) w fun t27 w =>
    Call Try.prog 60 #[a0, t27] w fun t28 w =>
    Does Try.prog (Instr.extract t28 0) w fun t29 w =>
    Does Try.prog (Instr.extract t28 1) w fun t30 w =>
    Does Try.prog (eqE .neq 29 (Go.Operand.tmp 31) (Go.Operand.const (Go.Value.int Go.IntKind.i64 0)) t30 (Go.Value.int Go.IntKind.i64 0)) w fun t32 w =>
    CondP t32 (
      R (Value.tuple #[(Go.Value.slice none 0 0), t30]) w
    ) (
      Does Try.prog (Instr.makeMap 77 none) w fun t34 w =>
      Does Try.prog (Instr.range 77 t19) w fun t36 w =>
      Rounds 0 (fun next1  w => ∀ _ : Nat → Value,
        Does Try.prog (Instr.next t36 false 0) w fun t37 w =>
        Does Try.prog (Instr.extract t37 0) w fun t38 w =>
        CondP t38 (
          Does Try.prog (Instr.entry t36) w fun t39 w =>
          Does Try.prog (Instr.extract t39 0) w fun t40 w =>
          Does Try.prog (Instr.lookup 77 t29 t40 true) w fun t44 w =>
          Does Try.prog (Instr.extract t44 0) w fun t45 w =>
          Does Try.prog (Instr.extract t44 1) w fun t46 w =>
          CondP t46 (
            Does Try.prog (Instr.mapUpdate 77 t34 t40 (Go.Value.int Go.IntKind.i64 1)) w fun _ w =>
            next1  w
          ) (
            next1  w
          )
        ) (
          Call Try.prog 62 #[a0, t34] w fun t52 w =>
          R (Value.tuple #[t52, (Go.Value.int Go.IntKind.i64 0)]) w
        )
      )  w
    )
  )
theorem has34 : hasBody Try.prog 34 = true := by kernel_rfl
theorem vc34 {R : Value → World → Prop} {a0 a1 a2 : Value} {w : World} (h : V34 R a0 a1 a2 w) : Call Try.prog 34 #[a0, a1, a2] w R :=
  vc_of (args := [a0, a1, a2]) 53 ⟨lk [(9, [])], lkO [], lk [], lk []⟩ Try.func34 rfl Try.ntmps34 rfl has34 mixed (Eq.mp (by kernel_rfl) h)

/-- (*marline/marref9.Graph).Bases -/
def V35 (R : Value → World → Prop) (a0 a1 a2 : Value) (w : World) : Prop :=
  Call Try.prog 33 #[a0, a1] w fun t17 w =>
  Does Try.prog (Instr.extract t17 0) w fun t18 w =>
  Does Try.prog (Instr.extract t17 1) w fun t19 w =>
  Does Try.prog (Instr.buildSlice 23 1 #[(0, a2)]) w fun t23 w =>
  Call Try.prog 33 #[a0, t23] w fun t24 w =>
  Does Try.prog (Instr.extract t24 0) w fun t25 w =>
  Does Try.prog (Instr.extract t24 1) w fun t26 w =>
  Does Try.prog (eqE .neq 29 (Go.Operand.tmp 27) (Go.Operand.const (Go.Value.int Go.IntKind.i64 0)) t19 (Go.Value.int Go.IntKind.i64 0)) w fun t28 w =>
  JoinP 1 (fun j1 => GuardP t28 false (
    Does Try.prog (eqE .neq 29 (Go.Operand.tmp 30) (Go.Operand.const (Go.Value.int Go.IntKind.i64 0)) t26 (Go.Value.int Go.IntKind.i64 0)) w fun t31 w =>
    j1 t31 w
  ) (j1 undef w))
  (fun t31 w => ∀ _ : Nat → Value,
  PickP t28 (Go.Value.bool true) t31 fun t32 =>
  CondP t32 (
    R (Value.tuple #[(Go.Value.slice none 0 0), (Go.Value.int Go.IntKind.i64 7)]) w
  ) (
    Rounds 2 (fun next2 both12 i13 w => ∀ _ : Nat → Value,
      Does Try.prog (Builtin.len_ #[23] 3 #[t18]) w fun t35 w =>
      Does Try.prog (binOp .lss 3 i13 t35) w fun t36 w =>
      CondP t36 (
        Does Try.prog (Instr.indexAt 23 t18 i13) w fun t42 w =>
        Does Try.prog (Instr.loadAt 9 t42) w fun t43 w =>
        Call Try.prog 14 #[t25, t43] w fun t44 w =>
        CondP t44 (
          Does Try.prog (Instr.indexAt 23 t18 i13) w fun t48 w =>
          Does Try.prog (Instr.loadAt 9 t48) w fun t49 w =>
          Does Try.prog (Instr.buildSlice 23 1 #[(0, t49)]) w fun t50 w =>
          Does Try.prog (Builtin.append_ #[23, 23] 23 #[both12, t50]) w fun t51 w =>
          Does Try.prog (binOp .add 3 i13 (Go.Value.int Go.IntKind.i64 1)) w fun t38 w =>
          next2 t51 t38 w
        ) (
          Does Try.prog (binOp .add 3 i13 (Go.Value.int Go.IntKind.i64 1)) w fun t38 w =>
          next2 both12 t38 w
        )
      ) (
        Call Try.prog 37 #[a0, both12] w fun t54 w =>
        Does Try.prog (Instr.extract t54 0) w fun t55 w =>
        Does Try.prog (Instr.extract t54 1) w fun t56 w =>
        R (Value.tuple #[t55, t56]) w
      )
    ) (Go.Value.slice none 0 0) (Go.Value.int Go.IntKind.i64 0) w
  )
  )
theorem has35 : hasBody Try.prog 35 = true := by kernel_rfl
theorem vc35 {R : Value → World → Prop} {a0 a1 a2 : Value} {w : World} (h : V35 R a0 a1 a2 w) : Call Try.prog 35 #[a0, a1, a2] w R :=
  vc_of (args := [a0, a1, a2]) 57 ⟨lk [(7, [12, 13])], lkO [], lk [], lk []⟩ Try.func35 rfl Try.ntmps35 rfl has35 mixed (Eq.mp (by kernel_rfl) h)

/-- (*marline/dag.Graph).Tops -/
def V36 (R : Value → World → Prop) (a0 a1 : Value) (w : World) : Prop :=
  Call Try.prog 60 #[a0, a1] w fun t11 w =>
  Does Try.prog (Instr.extract t11 0) w fun t12 w =>
  Does Try.prog (Instr.extract t11 1) w fun t13 w =>
  Does Try.prog (eqE .neq 29 (Go.Operand.tmp 14) (Go.Operand.const (Go.Value.int Go.IntKind.i64 0)) t13 (Go.Value.int Go.IntKind.i64 0)) w fun t15 w =>
  CondP t15 (
    R (Value.tuple #[(Go.Value.slice none 0 0), t13]) w
  ) (
    Call Try.prog 62 #[a0, t12] w fun t19 w =>
    R (Value.tuple #[t19, (Go.Value.int Go.IntKind.i64 0)]) w
  )
theorem has36 : hasBody Try.prog 36 = true := by kernel_rfl
theorem vc36 {R : Value → World → Prop} {a0 a1 : Value} {w : World} (h : V36 R a0 a1 w) : Call Try.prog 36 #[a0, a1] w R :=
  vc_of (args := [a0, a1]) 20 ⟨lk [], lkO [], lk [], lk []⟩ Try.func36 rfl Try.ntmps36 rfl has36 mixed (Eq.mp (by kernel_rfl) h)

/-- (*marline/marref9.Graph).Tops -/
def V37 (R : Value → World → Prop) (a0 a1 : Value) (w : World) : Prop :=
  Rounds 2 (fun next1 up6 i7 w => ∀ _ : Nat → Value,
    Does Try.prog (Builtin.len_ #[23] 3 #[a1]) w fun t14 w =>
    Does Try.prog (binOp .lss 3 i7 t14) w fun t15 w =>
    CondP t15 (
      Does Try.prog (Instr.indexAt 23 a1 i7) w fun t21 w =>
      Does Try.prog (Instr.loadAt 9 t21) w fun t22 w =>
      Call Try.prog 27 #[a0, t22] w fun t23 w =>
      Does Try.prog (Op.unary Go.UnOp.not t23) w fun t24 w =>
      CondP t24 (
        R (Value.tuple #[(Go.Value.slice none 0 0), (Go.Value.int Go.IntKind.i64 7)]) w
      ) (
        Does Try.prog (Instr.indexAt 23 a1 i7) w fun t30 w =>
        Does Try.prog (Instr.loadAt 9 t30) w fun t31 w =>
        Call Try.prog 31 #[a0, t31] w fun t32 w =>
        Call Try.prog 33 #[a0, t32] w fun t33 w =>
        Does Try.prog (Instr.extract t33 0) w fun t34 w =>
        Does Try.prog (Instr.extract t33 1) w fun t35 w =>
        Does Try.prog (Builtin.append_ #[23, 23] 23 #[up6, t34]) w fun t38 w =>
        Does Try.prog (binOp .add 3 i7 (Go.Value.int Go.IntKind.i64 1)) w fun t17 w =>
        next1 t38 t17 w
      )
    ) (
      Call Try.prog 13 #[up6] w fun t40 w =>
      Rounds 2 (fun next2 out10 i11 w => ∀ _ : Nat → Value,
        Does Try.prog (Builtin.len_ #[23] 3 #[a1]) w fun t43 w =>
        Does Try.prog (binOp .lss 3 i11 t43) w fun t44 w =>
        CondP t44 (
          Does Try.prog (Instr.indexAt 23 a1 i11) w fun t50 w =>
          Does Try.prog (Instr.loadAt 9 t50) w fun t51 w =>
          Call Try.prog 14 #[t40, t51] w fun t52 w =>
          Does Try.prog (Op.unary Go.UnOp.not t52) w fun t53 w =>
          CondP t53 (
            Does Try.prog (Instr.indexAt 23 a1 i11) w fun t57 w =>
            Does Try.prog (Instr.loadAt 9 t57) w fun t58 w =>
            Does Try.prog (Instr.buildSlice 23 1 #[(0, t58)]) w fun t59 w =>
            Does Try.prog (Builtin.append_ #[23, 23] 23 #[out10, t59]) w fun t60 w =>
            Does Try.prog (binOp .add 3 i11 (Go.Value.int Go.IntKind.i64 1)) w fun t46 w =>
            next2 t60 t46 w
          ) (
            Does Try.prog (binOp .add 3 i11 (Go.Value.int Go.IntKind.i64 1)) w fun t46 w =>
            next2 out10 t46 w
          )
        ) (
          Call Try.prog 13 #[out10] w fun t62 w =>
          R (Value.tuple #[t62, (Go.Value.int Go.IntKind.i64 0)]) w
        )
      ) (Go.Value.slice none 0 0) (Go.Value.int Go.IntKind.i64 0) w
    )
  ) (Go.Value.slice none 0 0) (Go.Value.int Go.IntKind.i64 0) w
theorem has37 : hasBody Try.prog 37 = true := by kernel_rfl
theorem vc37 {R : Value → World → Prop} {a0 a1 : Value} {w : World} (h : V37 R a0 a1 w) : Call Try.prog 37 #[a0, a1] w R :=
  vc_of (args := [a0, a1]) 63 ⟨lk [(3, [6, 7]), (12, [10, 11])], lkO [], lk [], lk []⟩ Try.func37 rfl Try.ntmps37 rfl has37 mixed (Eq.mp (by kernel_rfl) h)

/-- (*marline/dag.Graph).Order -/
def V38 (R : Value → World → Prop) (a0 a1 : Value) (w : World) : Prop :=
  Does Try.prog (Instr.box 45 a0) w fun g2 w =>
  Does Try.prog (Instr.loadAt 45 g2) w fun t9 w =>
  Call Try.prog 32 #[t9, a1] w fun t11 w =>
  Does Try.prog (Instr.extract t11 0) w fun t12 w =>
  Does Try.prog (Instr.extract t11 1) w fun t13 w =>
  Call Try.prog 63 #[t12, (Value.func (Go.Fn.func 64) #[] #[g2])] w fun t16 w =>
  R (Value.tuple #[t12, t13]) w
theorem has38 : hasBody Try.prog 38 = true := by kernel_rfl
theorem vc38 {R : Value → World → Prop} {a0 a1 : Value} {w : World} (h : V38 R a0 a1 w) : Call Try.prog 38 #[a0, a1] w R :=
  vc_of (args := [a0, a1]) 19 ⟨lk [], lkO [], lk [], lk []⟩ Try.func38 rfl Try.ntmps38 rfl has38 mixed (Eq.mp (by kernel_rfl) h)

/-- (*marline/marref9.Graph).Order -/
def V39 (R : Value → World → Prop) (a0 a1 : Value) (w : World) : Prop :=
  Call Try.prog 33 #[a0, a1] w fun t14 w =>
  Does Try.prog (Instr.extract t14 0) w fun t15 w =>
  Does Try.prog (Instr.extract t14 1) w fun t16 w =>
  Does Try.prog (eqE .neq 29 (Go.Operand.tmp 17) (Go.Operand.const (Go.Value.int Go.IntKind.i64 0)) t16 (Go.Value.int Go.IntKind.i64 0)) w fun t18 w =>
  CondP t18 (
    R (Value.tuple #[(Go.Value.slice none 0 0), t16]) w
  ) (
    Rounds 2 (fun next1 out8 i9 w => ∀ _ : Nat → Value,
      Does Try.prog (Builtin.len_ #[23] 3 #[t15]) w fun t22 w =>
      Does Try.prog (binOp .lss 3 i9 t22) w fun t23 w =>
      CondP t23 (
        Does Try.prog (Builtin.len_ #[23] 3 #[out8]) w fun t27 w =>
        Rounds 1 (fun next2 k10 w => ∀ _ : Nat → Value,
          DrawP Try.prog 63 (opsOf Try.f39 9) [0, 6, 8, 9, 10] [a0, t15, out8, i9, k10] [45] (fun t45 w => ∀ _ : Nat → Value,
          CondP t45 (
            Does Try.prog (binOp .sub 3 k10 (Go.Value.int Go.IntKind.i64 1)) w fun t47 w =>
            next2 t47 w
          ) (
            DrawP Try.prog 63 (opsOf Try.f39 11) [6, 8, 9, 10] [t15, out8, i9, k10] [8] (fun out8 w => ∀ _ : Nat → Value,
            Does Try.prog (binOp .add 3 i9 (Go.Value.int Go.IntKind.i64 1)) w fun t25 w =>
            next1 out8 t25 w
) w
          )
) w
        ) t27 w
      ) (
        R (Value.tuple #[out8, t16]) w
      )
    ) (Go.Value.slice none 0 0) (Go.Value.int Go.IntKind.i64 0) w
  )
theorem has39 : hasBody Try.prog 39 = true := by kernel_rfl
theorem vc39 {R : Value → World → Prop} {a0 a1 : Value} {w : World} (h : V39 R a0 a1 w) : Call Try.prog 39 #[a0, a1] w R :=
  vc_of (args := [a0, a1]) 63 ⟨lk [(6, [8, 9]), (9, [10])], lkO [], lk [(9, [0, 6, 8, 9, 10]), (11, [6, 8, 9, 10])], lk [(9, [45]), (11, [8])]⟩ Try.func39 rfl Try.ntmps39 rfl has39 mixed (Eq.mp (by kernel_rfl) h)

/-- (*marline/dag.Graph).Is -/
def V40 (R : Value → World → Prop) (a0 a1 a2 : Value) (w : World) : Prop :=
  Does Try.prog (Instr.buildSlice 23 1 #[(0, a2)]) w fun t14 w =>
  Call Try.prog 60 #[a0, t14] w fun t15 w =>
  Does Try.prog (Instr.extract t15 0) w fun t16 w =>
  Does Try.prog (Instr.extract t15 1) w fun t17 w =>
  Does Try.prog (Instr.lookup 77 t16 a1 true) w fun t21 w =>
  Does Try.prog (Instr.extract t21 0) w fun t22 w =>
  Does Try.prog (Instr.extract t21 1) w fun t23 w =>
  Does Try.prog (eqE .eql 29 (Go.Operand.tmp 24) (Go.Operand.const (Go.Value.int Go.IntKind.i64 0)) t17 (Go.Value.int Go.IntKind.i64 0)) w fun t25 w =>
  JoinP 1 (fun j1 => GuardP t25 true (
    j1 t23 w
  ) (j1 undef w))
  (fun t27 w => ∀ _ : Nat → Value,
  PickP t25 t27 (Go.Value.bool false) fun t28 =>
  R t28 w
  )
theorem has40 : hasBody Try.prog 40 = true := by kernel_rfl
theorem vc40 {R : Value → World → Prop} {a0 a1 a2 : Value} {w : World} (h : V40 R a0 a1 a2 w) : Call Try.prog 40 #[a0, a1, a2] w R :=
  vc_of (args := [a0, a1, a2]) 29 ⟨lk [], lkO [], lk [], lk []⟩ Try.func40 rfl Try.ntmps40 rfl has40 mixed (Eq.mp (by kernel_rfl) h)

/-- (*marline/marref9.Graph).Is -/
def V41 (R : Value → World → Prop) (a0 a1 a2 : Value) (w : World) : Prop :=
  Does Try.prog (Instr.buildSlice 23 1 #[(0, a2)]) w fun t12 w =>
  Call Try.prog 33 #[a0, t12] w fun t13 w =>
  Does Try.prog (Instr.extract t13 0) w fun t14 w =>
  Does Try.prog (Instr.extract t13 1) w fun t15 w =>
  Does Try.prog (eqE .eql 29 (Go.Operand.tmp 16) (Go.Operand.const (Go.Value.int Go.IntKind.i64 0)) t15 (Go.Value.int Go.IntKind.i64 0)) w fun t17 w =>
  JoinP 1 (fun j1 => GuardP t17 true (
    Call Try.prog 14 #[t14, a1] w fun t21 w =>
    j1 t21 w
  ) (j1 undef w))
  (fun t21 w => ∀ _ : Nat → Value,
  PickP t17 t21 (Go.Value.bool false) fun t22 =>
  R t22 w
  )
theorem has41 : hasBody Try.prog 41 = true := by kernel_rfl
theorem vc41 {R : Value → World → Prop} {a0 a1 a2 : Value} {w : World} (h : V41 R a0 a1 a2 w) : Call Try.prog 41 #[a0, a1, a2] w R :=
  vc_of (args := [a0, a1, a2]) 23 ⟨lk [], lkO [], lk [], lk []⟩ Try.func41 rfl Try.ntmps41 rfl has41 mixed (Eq.mp (by kernel_rfl) h)

/-- marline/reach.Diff -/
def V42 (R : Value → World → Prop) (a0 a1 a2 a3 : Value) (w : World) : Prop :=
  Call Try.prog 10 #[a0, a1, a3] w fun t20 w =>
  Does Try.prog (Instr.extract t20 0) w fun t21 w =>
  Does Try.prog (Instr.extract t20 1) w fun t22 w =>
  Does Try.prog (Instr.extract t20 2) w fun t23 w =>
  Does Try.prog (eqE .neq 29 (Go.Operand.tmp 24) (Go.Operand.const (Go.Value.int Go.IntKind.i64 0)) t23 (Go.Value.int Go.IntKind.i64 0)) w fun t25 w =>
  CondP t25 (
    R (Value.tuple #[(Go.Value.slice none 0 0), t23]) w
  ) (
    Call Try.prog 10 #[a0, a2, a3] w fun t31 w =>
    Does Try.prog (Instr.extract t31 0) w fun t32 w =>
    Does Try.prog (Instr.extract t31 1) w fun t33 w =>
    Does Try.prog (Instr.extract t31 2) w fun t34 w =>
    Does Try.prog (eqE .neq 29 (Go.Operand.tmp 36) (Go.Operand.const (Go.Value.int Go.IntKind.i64 0)) t34 (Go.Value.int Go.IntKind.i64 0)) w fun t37 w =>
    CondP t37 (
      R (Value.tuple #[(Go.Value.slice none 0 0), t34]) w
    ) (
      Does Try.prog (Builtin.len_ #[23] 3 #[t22]) w fun t41 w =>
      Does Try.prog (binOp .gtr 3 t41 (Go.Value.int Go.IntKind.i64 0)) w fun t42 w =>
      CondP t42 (
        R (Value.tuple #[(Go.Value.slice none 0 0), (Go.Value.int Go.IntKind.i64 7)]) w
      ) (
        Call Try.prog 65 #[t32, t33] w fun t45 w =>
        Does Try.prog (Instr.alloc 23 true (.tuple #[])) w fun there15 w =>
        Does Try.prog (Instr.storeAt 23 there15 t45) w fun _ w =>
        Call Try.prog 66 #[t21, (Value.func (Go.Fn.func 67) #[] #[there15])] w fun t48 w =>
        R (Value.tuple #[t48, (Go.Value.int Go.IntKind.i64 0)]) w
      )
    )
  )
theorem has42 : hasBody Try.prog 42 = true := by kernel_rfl
theorem vc42 {R : Value → World → Prop} {a0 a1 a2 a3 : Value} {w : World} (h : V42 R a0 a1 a2 a3 w) : Call Try.prog 42 #[a0, a1, a2, a3] w R :=
  vc_of (args := [a0, a1, a2, a3]) 49 ⟨lk [], lkO [], lk [], lk []⟩ Try.func42 rfl Try.ntmps42 rfl has42 mixed (Eq.mp (by kernel_rfl) h)

/-- marline/obj.Encode -/
def V43 (R : Value → World → Prop) (a0 : Value) (w : World) : Prop :=
  Does Try.prog (Instr.box 72 a0) w fun o1 w =>
  Does Try.prog (Instr.loadAt 72 o1) w fun t9 w =>
  Call Try.prog 69 #[t9] w fun t10 w =>
  Does Try.prog (Op.unary Go.UnOp.not t10) w fun t11 w =>
  CondP t11 (
    R (Value.tuple #[(Go.Value.slice none 0 0), (Go.Value.int Go.IntKind.i64 1)]) w
  ) (
    Does Try.prog (Instr.fieldAt 72 o1 0) w fun t12 w =>
    Does Try.prog (Instr.loadAt 3 t12) w fun t13 w =>
    Does Try.prog (convert 3 5 t13) w fun t14 w =>
    Does Try.prog (Instr.buildSlice 34 1 #[(0, t14)]) w fun t15 w =>
    Does Try.prog (Instr.fieldAt 72 o1 0) w fun t16 w =>
    Does Try.prog (Instr.loadAt 3 t16) w fun t17 w =>
    Does Try.prog (eqE .eql 3 (Go.Operand.tmp 17) (Go.Operand.const (Go.Value.int Go.IntKind.i64 1)) t17 (Go.Value.int Go.IntKind.i64 1)) w fun t19 w =>
    CondP t19 (
      Does Try.prog (Instr.fieldAt 72 o1 1) w fun t21 w =>
      Does Try.prog (Instr.loadAt 34 t21) w fun t22 w =>
      Does Try.prog (Builtin.append_ #[34, 34] 34 #[t15, t22]) w fun t23 w =>
      R (Value.tuple #[t23, (Go.Value.int Go.IntKind.i64 0)]) w
    ) (
      Does Try.prog (eqE .eql 3 (Go.Operand.tmp 17) (Go.Operand.const (Go.Value.int Go.IntKind.i64 2)) t17 (Go.Value.int Go.IntKind.i64 2)) w fun t25 w =>
      CondP t25 (
        Does Try.prog (Instr.fieldAt 72 o1 2) w fun t27 w =>
        Does Try.prog (Instr.loadAt 70 t27) w fun t28 w =>
        Does Try.prog (Builtin.len_ #[70] 3 #[t28]) w fun t29 w =>
        Call Try.prog 70 #[t15, t29] w fun t30 w =>
        Does Try.prog (Instr.fieldAt 72 o1 2) w fun t31 w =>
        Does Try.prog (Instr.loadAt 70 t31) w fun t32 w =>
        Does Try.prog (Builtin.len_ #[70] 3 #[t32]) w fun t33 w =>
        Rounds 2 (fun next1 r4 t34 w => ∀ _ : Nat → Value,
          Does Try.prog (binOp .lss 3 t34 t33) w fun t35 w =>
          CondP t35 (
            Does Try.prog (Instr.indexAt 70 t32 t34) w fun t36 w =>
            Does Try.prog (Instr.loadAt 106 t36) w fun t37 w =>
            Does Try.prog (Instr.alloc 106 true (.tuple #[])) w fun y6 w =>
            Does Try.prog (Instr.storeAt 106 y6 t37) w fun _ w =>
            DrawP Try.prog 93 (opsOf Try.f43 12) [4, 6] [r4, y6] [4] (fun r4 w => ∀ _ : Nat → Value,
            DrawP Try.prog 93 (opsOf Try.f43 13) [4, 6] [r4, y6] [4] (fun r4 w => ∀ _ : Nat → Value,
            Does Try.prog (binOp .add 3 t34 (Go.Value.int Go.IntKind.i64 1)) w fun t55 w =>
            next1 r4 t55 w
) w
) w
          ) (
            R (Value.tuple #[r4, (Go.Value.int Go.IntKind.i64 0)]) w
          )
        ) t30 (Go.Value.int Go.IntKind.i64 0) w
      ) (
        DrawP Try.prog 93 (opsOf Try.f43 16) [1, 4] [o1, t15] [4] (fun r4 w => ∀ _ : Nat → Value,
        Does Try.prog (Instr.fieldAt 72 o1 4) w fun t67 w =>
        Does Try.prog (Instr.loadAt 23 t67) w fun t68 w =>
        Does Try.prog (Builtin.len_ #[23] 3 #[t68]) w fun t69 w =>
        Rounds 2 (fun next2 r4 t70 w => ∀ _ : Nat → Value,
          Does Try.prog (binOp .lss 3 t70 t69) w fun t71 w =>
          CondP t71 (
            Does Try.prog (Instr.indexAt 23 t68 t70) w fun t72 w =>
            Does Try.prog (Instr.loadAt 9 t72) w fun t73 w =>
            Call Try.prog 71 #[r4, t73] w fun t76 w =>
            Does Try.prog (binOp .add 3 t70 (Go.Value.int Go.IntKind.i64 1)) w fun t77 w =>
            next2 t76 t77 w
          ) (
            DrawP Try.prog 93 (opsOf Try.f43 22) [1, 4] [o1, r4] [4] (fun r4 w => ∀ _ : Nat → Value,
            Does Try.prog (Instr.fieldAt 72 o1 7) w fun t90 w =>
            Does Try.prog (Instr.loadAt 9 t90) w fun t91 w =>
            Does Try.prog (Builtin.append_ #[34, 9] 34 #[r4, t91]) w fun t92 w =>
            R (Value.tuple #[t92, (Go.Value.int Go.IntKind.i64 0)]) w
) w
          )
        ) r4 (Go.Value.int Go.IntKind.i64 0) w
) w
      )
    )
  )
theorem has43 : hasBody Try.prog 43 = true := by kernel_rfl
theorem vc43 {R : Value → World → Prop} {a0 : Value} {w : World} (h : V43 R a0 w) : Call Try.prog 43 #[a0] w R :=
  vc_of (args := [a0]) 93 ⟨lk [(10, [4, 34]), (18, [4, 70])], lkO [], lk [(12, [4, 6]), (13, [4, 6]), (16, [1, 4]), (22, [1, 4])], lk [(12, [4]), (13, [4]), (16, [4]), (22, [4])]⟩ Try.func43 rfl Try.ntmps43 rfl has43 mixed (Eq.mp (by kernel_rfl) h)

/-- marline/marref1.ID -/
def V44 (R : Value → World → Prop) (a0 : Value) (w : World) : Prop :=
  Call Try.prog 72 #[a0] w fun t4 w =>
  Call Try.prog 55 #[t4] w fun t5 w =>
  R t5 w
theorem has44 : hasBody Try.prog 44 = true := by kernel_rfl
theorem vc44 {R : Value → World → Prop} {a0 : Value} {w : World} (h : V44 R a0 w) : Call Try.prog 44 #[a0] w R :=
  vc_of (args := [a0]) 6 ⟨lk [], lkO [], lk [], lk []⟩ Try.func44 rfl Try.ntmps44 rfl has44 mixed (Eq.mp (by kernel_rfl) h)

/-- marline/marlaw10.Source$1 -/
def V45 (R : Value → World → Prop) (a0 a1 a2 a3 : Value) (w : World) : Prop :=
  Rounds 1 (fun next1 i7 w => ∀ _ : Nat → Value,
    Does Try.prog (Instr.loadAt 22 a1) w fun t10 w =>
    Does Try.prog (Builtin.len_ #[22] 3 #[t10]) w fun t11 w =>
    Does Try.prog (binOp .lss 3 i7 t11) w fun t12 w =>
    CondP t12 (
      JoinP 1 (fun j2 =>
        Does Try.prog (Instr.loadAt 4 a2) w fun t16 w =>
        CondP t16 (
          Does Try.prog (binOp .add 3 i7 (Go.Value.int Go.IntKind.i64 1)) w fun t18 w =>
          Does Try.prog (Instr.loadAt 22 a1) w fun t19 w =>
          Does Try.prog (Builtin.len_ #[22] 3 #[t19]) w fun t20 w =>
          Does Try.prog (binOp .rem 3 t18 t20) w fun t21 w =>
          j2 t21 w
        ) (
          j2 i7 w
        )
      ) (fun k8 w => ∀ _ : Nat → Value,
      Does Try.prog (Instr.loadAt 23 a3) w fun t22 w =>
      Does Try.prog (Instr.indexAt 23 t22 k8) w fun t24 w =>
      Does Try.prog (Instr.loadAt 9 t24) w fun t25 w =>
      Does Try.prog (eqE .eql 9 (Go.Operand.tmp 25) (Go.Operand.tmp 26) t25 a0) w fun t27 w =>
      CondP t27 (
        Does Try.prog (Instr.loadAt 22 a1) w fun t28 w =>
        Does Try.prog (Instr.indexAt 22 t28 i7) w fun t30 w =>
        Does Try.prog (Instr.loadAt 34 t30) w fun t31 w =>
        Call Try.prog 46 #[t31] w fun t32 w =>
        R (Value.tuple #[t32, (Go.Value.bool true)]) w
      ) (
        Does Try.prog (binOp .add 3 i7 (Go.Value.int Go.IntKind.i64 1)) w fun t14 w =>
        next1 t14 w
      )
      )
    ) (
      R (Value.tuple #[(Go.Value.slice none 0 0), (Go.Value.bool false)]) w
    )
  ) (Go.Value.int Go.IntKind.i64 0) w
theorem has45 : hasBody Try.prog 45 = true := by kernel_rfl
theorem vc45 {R : Value → World → Prop} {a0 a1 a2 a3 : Value} {w : World} (h : V45 R a0 a1 a2 a3 w) : Call Try.prog 45 #[a0, a1, a2, a3] w R :=
  vc_of (args := [a0, a1, a2, a3]) 33 ⟨lk [(2, [7])], lkO [(7, [8])], lk [], lk []⟩ Try.func45 rfl Try.ntmps45 rfl has45 mixed (Eq.mp (by kernel_rfl) h)

/-- marline/marref.CopyBytes -/
def V46 (R : Value → World → Prop) (a0 : Value) (w : World) : Prop :=
  Does Try.prog (Instr.buildSlice 34 0 #[]) w fun t3 w =>
  Does Try.prog (Builtin.append_ #[34, 34] 34 #[t3, a0]) w fun t5 w =>
  R t5 w
theorem has46 : hasBody Try.prog 46 = true := by kernel_rfl
theorem vc46 {R : Value → World → Prop} {a0 : Value} {w : World} (h : V46 R a0 w) : Call Try.prog 46 #[a0] w R :=
  vc_of (args := [a0]) 6 ⟨lk [], lkO [], lk [], lk []⟩ Try.func46 rfl Try.ntmps46 rfl has46 mixed (Eq.mp (by kernel_rfl) h)

/-- marline/reach.within -/
def V47 (R : Value → World → Prop) (a0 : Value) (w : World) : Prop :=
  Does Try.prog (binOp .geq 3 a0 (Go.Value.int Go.IntKind.i64 1)) w fun t4 w =>
  JoinP 1 (fun j1 => GuardP t4 true (
    Does Try.prog (binOp .leq 3 a0 (Go.Value.int Go.IntKind.i64 2000)) w fun t7 w =>
    j1 t7 w
  ) (j1 undef w))
  (fun t7 w => ∀ _ : Nat → Value,
  PickP t4 t7 (Go.Value.bool false) fun t8 =>
  R t8 w
  )
theorem has47 : hasBody Try.prog 47 = true := by kernel_rfl
theorem vc47 {R : Value → World → Prop} {a0 : Value} {w : World} (h : V47 R a0 w) : Call Try.prog 47 #[a0] w R :=
  vc_of (args := [a0]) 9 ⟨lk [], lkO [], lk [], lk []⟩ Try.func47 rfl Try.ntmps47 rfl has47 mixed (Eq.mp (by kernel_rfl) h)

/-- slices.Clone[[]string,string] -/
def V48 (R : Value → World → Prop) (a0 : Value) (w : World) : Prop :=
  Does Try.prog (eqE .eql 23 (Go.Operand.tmp 3) (Go.Operand.const (Go.Value.slice none 0 0)) a0 (Go.Value.slice none 0 0)) w fun t4 w =>
  CondP t4 (
    R (Go.Value.slice none 0 0) w
  ) (
    Does Try.prog (Instr.buildSlice 23 0 #[]) w fun t5 w =>
    Does Try.prog (Builtin.append_ #[23, 23] 23 #[t5, a0]) w fun t7 w =>
    R t7 w
  )
theorem has48 : hasBody Try.prog 48 = true := by kernel_rfl
theorem vc48 {R : Value → World → Prop} {a0 : Value} {w : World} (h : V48 R a0 w) : Call Try.prog 48 #[a0] w R :=
  vc_of (args := [a0]) 8 ⟨lk [], lkO [], lk [], lk []⟩ Try.func48 rfl Try.ntmps48 rfl has48 mixed (Eq.mp (by kernel_rfl) h)

/-- (marline/reach.Source).object -/
def V49 (R : Value → World → Prop) (a0 a1 : Value) (w : World) : Prop :=
  Does Try.prog (Instr.alloc 72 true (.tuple #[])) w fun t4 w =>
  CallV Try.prog a0 #[a1] w fun t13 w =>
  Does Try.prog (Instr.extract t13 0) w fun t14 w =>
  Does Try.prog (Instr.extract t13 1) w fun t15 w =>
  Does Try.prog (Op.unary Go.UnOp.not t15) w fun t17 w =>
  CondP t17 (
    Does Try.prog (Instr.build 72 #[]) w fun t18 w =>
    Does Try.prog (Instr.storeAt 72 t4 t18) w fun _ w =>
    SameP Try.prog (loadRes 72 t4) w fun r0 =>
    R (Value.tuple #[r0, (Go.Value.bool false)]) w
  ) (
    Call Try.prog 73 #[t14] w fun t21 w =>
    Does Try.prog (Instr.extract t21 0) w fun t22 w =>
    Does Try.prog (Instr.extract t21 1) w fun t23 w =>
    Does Try.prog (Instr.alloc 72 true (.tuple #[])) w fun o8 w =>
    Does Try.prog (Instr.storeAt 72 o8 t22) w fun _ w =>
    Does Try.prog (Instr.loadAt 72 o8) w fun t24 w =>
    Does Try.prog (eqE .eql 29 (Go.Operand.tmp 25) (Go.Operand.const (Go.Value.int Go.IntKind.i64 0)) t23 (Go.Value.int Go.IntKind.i64 0)) w fun t26 w =>
    Does Try.prog (Instr.storeAt 72 t4 t24) w fun _ w =>
    SameP Try.prog (loadRes 72 t4) w fun r0 =>
    R (Value.tuple #[r0, t26]) w
  )
theorem has49 : hasBody Try.prog 49 = true := by kernel_rfl
theorem vc49 {R : Value → World → Prop} {a0 a1 : Value} {w : World} (h : V49 R a0 a1 w) : Call Try.prog 49 #[a0, a1] w R :=
  vc_of (args := [a0, a1]) 27 ⟨lk [], lkO [], lk [], lk []⟩ Try.func49 rfl Try.ntmps49 rfl has49 mixed (Eq.mp (by kernel_rfl) h)

/-- marline/obj.Refs -/
def V50 (R : Value → World → Prop) (a0 : Value) (w : World) : Prop :=
  Does Try.prog (Instr.box 72 a0) w fun o1 w =>
  Does Try.prog (Instr.fieldAt 72 o1 0) w fun t6 w =>
  Does Try.prog (Instr.loadAt 3 t6) w fun t7 w =>
  Does Try.prog (eqE .eql 3 (Go.Operand.tmp 7) (Go.Operand.const (Go.Value.int Go.IntKind.i64 2)) t7 (Go.Value.int Go.IntKind.i64 2)) w fun t9 w =>
  CondP t9 (
    Does Try.prog (Instr.fieldAt 72 o1 2) w fun t10 w =>
    Does Try.prog (Instr.loadAt 70 t10) w fun t11 w =>
    Does Try.prog (Builtin.len_ #[70] 3 #[t11]) w fun t12 w =>
    Rounds 2 (fun next1 l3 t13 w => ∀ _ : Nat → Value,
      Does Try.prog (binOp .lss 3 t13 t12) w fun t14 w =>
      CondP t14 (
        Does Try.prog (Instr.indexAt 70 t11 t13) w fun t15 w =>
        Does Try.prog (Instr.loadAt 106 t15) w fun t16 w =>
        Does Try.prog (Instr.alloc 106 true (.tuple #[])) w fun x5 w =>
        Does Try.prog (Instr.storeAt 106 x5 t16) w fun _ w =>
        Does Try.prog (Instr.fieldAt 106 x5 2) w fun t18 w =>
        Does Try.prog (Instr.loadAt 9 t18) w fun t19 w =>
        Does Try.prog (Instr.buildSlice 23 1 #[(0, t19)]) w fun t20 w =>
        Does Try.prog (Builtin.append_ #[23, 23] 23 #[l3, t20]) w fun t21 w =>
        Does Try.prog (binOp .add 3 t13 (Go.Value.int Go.IntKind.i64 1)) w fun t22 w =>
        next1 t21 t22 w
      ) (
        R l3 w
      )
    ) (Go.Value.slice none 0 0) (Go.Value.int Go.IntKind.i64 0) w
  ) (
    Does Try.prog (eqE .eql 3 (Go.Operand.tmp 7) (Go.Operand.const (Go.Value.int Go.IntKind.i64 3)) t7 (Go.Value.int Go.IntKind.i64 3)) w fun t24 w =>
    CondP t24 (
      Does Try.prog (Instr.fieldAt 72 o1 3) w fun t25 w =>
      Does Try.prog (Instr.loadAt 9 t25) w fun t26 w =>
      Does Try.prog (Instr.buildSlice 23 1 #[(0, t26)]) w fun t27 w =>
      Does Try.prog (Instr.fieldAt 72 o1 4) w fun t28 w =>
      Does Try.prog (Instr.loadAt 23 t28) w fun t29 w =>
      Does Try.prog (Builtin.append_ #[23, 23] 23 #[t27, t29]) w fun t30 w =>
      R t30 w
    ) (
      R (Go.Value.slice none 0 0) w
    )
  )
theorem has50 : hasBody Try.prog 50 = true := by kernel_rfl
theorem vc50 {R : Value → World → Prop} {a0 : Value} {w : World} (h : V50 R a0 w) : Call Try.prog 50 #[a0] w R :=
  vc_of (args := [a0]) 32 ⟨lk [(5, [3, 13])], lkO [], lk [], lk []⟩ Try.func50 rfl Try.ntmps50 rfl has50 mixed (Eq.mp (by kernel_rfl) h)

/-- marline/wire.Sort -/
def V51 (R : Value → World → Prop) (a0 : Value) (w : World) : Prop :=
  Does Try.prog (Builtin.len_ #[23] 3 #[a0]) w fun t5 w =>
  Does Try.prog (binOp .lss 3 t5 (Go.Value.int Go.IntKind.i64 2)) w fun t6 w =>
  CondP t6 (
    Call Try.prog 48 #[a0] w fun t8 w =>
    R t8 w
  ) (
    Does Try.prog (Builtin.len_ #[23] 3 #[a0]) w fun t10 w =>
    Does Try.prog (binOp .quo 3 t10 (Go.Value.int Go.IntKind.i64 2)) w fun t11 w =>
    DrawP Try.prog 21 (opsOf Try.f51 4) [0, 3] [a0, t11] [2] (fun t2 w => ∀ _ : Nat → Value,
    R t2 w
) w
  )
theorem has51 : hasBody Try.prog 51 = true := by kernel_rfl
theorem vc51 {R : Value → World → Prop} {a0 : Value} {w : World} (h : V51 R a0 w) : Call Try.prog 51 #[a0] w R :=
  vc_of (args := [a0]) 21 ⟨lk [], lkO [], lk [(4, [0, 3])], lk [(4, [2])]⟩ Try.func51 rfl Try.ntmps51 rfl has51 mixed (Eq.mp (by kernel_rfl) h)

/-- (*marline/marref6.Reader).Take -/
def V52 (R : Value → World → Prop) (a0 a1 : Value) (w : World) : Prop :=
  DrawP Try.prog 56 (opsOf Try.f52 1) [0, 1] [a0, a1] [27] (fun t27 w => ∀ _ : Nat → Value,
  CondP t27 (
    NilCheckP a0 fun t29 =>
    Does Try.prog (Instr.fieldAt 84 t29 2) w fun t30 w =>
    Does Try.prog (Instr.storeAt 4 t30 (Go.Value.bool true)) w fun _ w =>
    R (Go.Value.slice none 0 0) w
  ) (
    DrawP Try.prog 56 (opsOf Try.f52 4) [0, 1] [a0, a1] [5] (fun b5 w => ∀ _ : Nat → Value,
    NilCheckP a0 fun t47 =>
    Does Try.prog (Instr.fieldAt 84 t47 1) w fun t48 w =>
    Does Try.prog (Instr.loadAt 3 t48) w fun t49 w =>
    Does Try.prog (binOp .add 3 t49 a1) w fun t51 w =>
    NilCheckP a0 fun t52 =>
    Does Try.prog (Instr.fieldAt 84 t52 1) w fun t53 w =>
    Does Try.prog (Instr.storeAt 3 t53 t51) w fun _ w =>
    Call Try.prog 46 #[b5] w fun t55 w =>
    R t55 w
) w
  )
) w
theorem has52 : hasBody Try.prog 52 = true := by kernel_rfl
theorem vc52 {R : Value → World → Prop} {a0 a1 : Value} {w : World} (h : V52 R a0 a1 w) : Call Try.prog 52 #[a0, a1] w R :=
  vc_of (args := [a0, a1]) 56 ⟨lk [], lkO [], lk [(1, [0, 1]), (4, [0, 1])], lk [(1, [27]), (4, [5])]⟩ Try.func52 rfl Try.ntmps52 rfl has52 mixed (Eq.mp (by kernel_rfl) h)

/-- (*marline/marref6.Reader).Num -/
def V53 (R : Value → World → Prop) (a0 : Value) (w : World) : Prop :=
  DrawP Try.prog 35 (opsOf Try.f53 1) [0] [a0] [3, 4, 5] (fun n3 at4 e5 w => ∀ _ : Nat → Value,
  NilCheckP a0 fun t20 =>
  Does Try.prog (Instr.fieldAt 84 t20 2) w fun t21 w =>
  Does Try.prog (Instr.loadAt 4 t21) w fun t22 w =>
  JoinP 1 (fun j1 => GuardP t22 false (
    Does Try.prog (eqE .neq 29 (Go.Operand.tmp 24) (Go.Operand.const (Go.Value.int Go.IntKind.i64 0)) e5 (Go.Value.int Go.IntKind.i64 0)) w fun t25 w =>
    j1 t25 w
  ) (j1 undef w))
  (fun t25 w => ∀ _ : Nat → Value,
  PickP t22 (Go.Value.bool true) t25 fun t26 =>
  CondP t26 (
    NilCheckP a0 fun t28 =>
    Does Try.prog (Instr.fieldAt 84 t28 2) w fun t29 w =>
    Does Try.prog (Instr.storeAt 4 t29 (Go.Value.bool true)) w fun _ w =>
    R (Go.Value.int Go.IntKind.i64 0) w
  ) (
    NilCheckP a0 fun t32 =>
    Does Try.prog (Instr.fieldAt 84 t32 1) w fun t33 w =>
    Does Try.prog (Instr.storeAt 3 t33 at4) w fun _ w =>
    R n3 w
  )
  )
) w
theorem has53 : hasBody Try.prog 53 = true := by kernel_rfl
theorem vc53 {R : Value → World → Prop} {a0 : Value} {w : World} (h : V53 R a0 w) : Call Try.prog 53 #[a0] w R :=
  vc_of (args := [a0]) 35 ⟨lk [], lkO [], lk [(1, [0])], lk [(1, [3, 4, 5])]⟩ Try.func53 rfl Try.ntmps53 rfl has53 mixed (Eq.mp (by kernel_rfl) h)

/-- (*marline/marref6.Reader).Byte -/
def V54 (R : Value → World → Prop) (a0 : Value) (w : World) : Prop :=
  Call Try.prog 52 #[a0, (Go.Value.int Go.IntKind.i64 1)] w fun t5 w =>
  Does Try.prog (Builtin.len_ #[34] 3 #[t5]) w fun t7 w =>
  Does Try.prog (eqE .eql 3 (Go.Operand.tmp 7) (Go.Operand.const (Go.Value.int Go.IntKind.i64 0)) t7 (Go.Value.int Go.IntKind.i64 0)) w fun t8 w =>
  CondP t8 (
    R (Go.Value.int Go.IntKind.i64 0) w
  ) (
    Does Try.prog (Instr.indexAt 34 t5 (Go.Value.int Go.IntKind.i64 0)) w fun t10 w =>
    Does Try.prog (Instr.loadAt 5 t10) w fun t11 w =>
    Does Try.prog (convert 5 3 t11) w fun t12 w =>
    R t12 w
  )
theorem has54 : hasBody Try.prog 54 = true := by kernel_rfl
theorem vc54 {R : Value → World → Prop} {a0 : Value} {w : World} (h : V54 R a0 w) : Call Try.prog 54 #[a0] w R :=
  vc_of (args := [a0]) 13 ⟨lk [], lkO [], lk [], lk []⟩ Try.func54 rfl Try.ntmps54 rfl has54 mixed (Eq.mp (by kernel_rfl) h)

/-- marline/marref1.Hex -/
def V55 (R : Value → World → Prop) (a0 : Value) (w : World) : Prop :=
  Rounds 2 (fun next1 out4 i5 w => ∀ _ : Nat → Value,
    Does Try.prog (Builtin.len_ #[34] 3 #[a0]) w fun t8 w =>
    Does Try.prog (binOp .lss 3 i5 t8) w fun t9 w =>
    CondP t9 (
      DrawP Try.prog 31 (opsOf Try.f55 6) [0, 3, 4, 5] [a0, (Go.Value.string { data := #[48, 49, 50, 51, 52, 53, 54, 55, 56, 57, 97, 98, 99, 100, 101, 102] }), out4, i5] [4] (fun out4 w => ∀ _ : Nat → Value,
      Does Try.prog (binOp .add 3 i5 (Go.Value.int Go.IntKind.i64 1)) w fun t11 w =>
      next1 out4 t11 w
) w
    ) (
      Does Try.prog (convert 34 9 out4) w fun t30 w =>
      R t30 w
    )
  ) (Go.Value.slice none 0 0) (Go.Value.int Go.IntKind.i64 0) w
theorem has55 : hasBody Try.prog 55 = true := by kernel_rfl
theorem vc55 {R : Value → World → Prop} {a0 : Value} {w : World} (h : V55 R a0 w) : Call Try.prog 55 #[a0] w R :=
  vc_of (args := [a0]) 31 ⟨lk [(4, [4, 5])], lkO [], lk [(6, [0, 3, 4, 5])], lk [(6, [4])]⟩ Try.func55 rfl Try.ntmps55 rfl has55 mixed (Eq.mp (by kernel_rfl) h)

/-- (marline/marref6.Obj).Encode -/
def V56 (R : Value → World → Prop) (a0 : Value) (w : World) : Prop :=
  Does Try.prog (Instr.box 38 a0) w fun o1 w =>
  Does Try.prog (Instr.loadAt 38 o1) w fun t8 w =>
  Call Try.prog 76 #[t8] w fun t9 w =>
  Does Try.prog (Op.unary Go.UnOp.not t9) w fun t10 w =>
  CondP t10 (
    R (Value.tuple #[(Go.Value.slice none 0 0), (Go.Value.int Go.IntKind.i64 1)]) w
  ) (
    Does Try.prog (Instr.fieldAt 38 o1 0) w fun t11 w =>
    Does Try.prog (Instr.loadAt 3 t11) w fun t12 w =>
    Does Try.prog (convert 3 5 t12) w fun t13 w =>
    Does Try.prog (Instr.buildSlice 34 1 #[(0, t13)]) w fun t14 w =>
    Does Try.prog (Instr.fieldAt 38 o1 0) w fun t15 w =>
    Does Try.prog (Instr.loadAt 3 t15) w fun t16 w =>
    Does Try.prog (eqE .eql 3 (Go.Operand.tmp 16) (Go.Operand.const (Go.Value.int Go.IntKind.i64 1)) t16 (Go.Value.int Go.IntKind.i64 1)) w fun t18 w =>
    CondP t18 (
      Does Try.prog (Instr.fieldAt 38 o1 1) w fun t20 w =>
      Does Try.prog (Instr.loadAt 34 t20) w fun t21 w =>
      Does Try.prog (Builtin.append_ #[34, 34] 34 #[t14, t21]) w fun t22 w =>
      R (Value.tuple #[t22, (Go.Value.int Go.IntKind.i64 0)]) w
    ) (
      Does Try.prog (eqE .eql 3 (Go.Operand.tmp 16) (Go.Operand.const (Go.Value.int Go.IntKind.i64 2)) t16 (Go.Value.int Go.IntKind.i64 2)) w fun t24 w =>
      CondP t24 (
        Does Try.prog (Instr.fieldAt 38 o1 2) w fun t26 w =>
        Does Try.prog (Instr.loadAt 36 t26) w fun t27 w =>
        Does Try.prog (Builtin.len_ #[36] 3 #[t27]) w fun t28 w =>
        Call Try.prog 77 #[t28] w fun t29 w =>
        Does Try.prog (Builtin.append_ #[34, 34] 34 #[t14, t29]) w fun t30 w =>
        Rounds 2 (fun next1 r4 a5 w => ∀ _ : Nat → Value,
          Does Try.prog (Instr.fieldAt 38 o1 2) w fun t32 w =>
          Does Try.prog (Instr.loadAt 36 t32) w fun t33 w =>
          Does Try.prog (Builtin.len_ #[36] 3 #[t33]) w fun t34 w =>
          Does Try.prog (binOp .lss 3 a5 t34) w fun t35 w =>
          CondP t35 (
            Does Try.prog (Instr.fieldAt 38 o1 2) w fun t38 w =>
            Does Try.prog (Instr.loadAt 36 t38) w fun t39 w =>
            Does Try.prog (Instr.indexAt 36 t39 a5) w fun t41 w =>
            Does Try.prog (Instr.loadAt 87 t41) w fun t42 w =>
            Does Try.prog (Instr.alloc 87 true (.tuple #[])) w fun y6 w =>
            Does Try.prog (Instr.storeAt 87 y6 t42) w fun _ w =>
            DrawP Try.prog 109 (opsOf Try.f56 13) [4, 6] [r4, y6] [4] (fun r4 w => ∀ _ : Nat → Value,
            Does Try.prog (Instr.fieldAt 87 y6 2) w fun t58 w =>
            Does Try.prog (Instr.loadAt 9 t58) w fun t59 w =>
            Call Try.prog 78 #[t59] w fun t60 w =>
            Does Try.prog (Builtin.append_ #[34, 34] 34 #[r4, t60]) w fun t61 w =>
            Does Try.prog (binOp .add 3 a5 (Go.Value.int Go.IntKind.i64 1)) w fun t37 w =>
            next1 t61 t37 w
) w
          ) (
            R (Value.tuple #[r4, (Go.Value.int Go.IntKind.i64 0)]) w
          )
        ) t30 (Go.Value.int Go.IntKind.i64 0) w
      ) (
        Does Try.prog (eqE .eql 3 (Go.Operand.tmp 16) (Go.Operand.const (Go.Value.int Go.IntKind.i64 3)) t16 (Go.Value.int Go.IntKind.i64 3)) w fun t63 w =>
        CondP t63 (
          DrawP Try.prog 109 (opsOf Try.f56 16) [1, 4] [o1, t14] [4] (fun r4 w => ∀ _ : Nat → Value,
          Rounds 2 (fun next2 r4 t7 w => ∀ _ : Nat → Value,
            Does Try.prog (Instr.fieldAt 38 o1 4) w fun t76 w =>
            Does Try.prog (Instr.loadAt 23 t76) w fun t77 w =>
            Does Try.prog (Builtin.len_ #[23] 3 #[t77]) w fun t78 w =>
            Does Try.prog (binOp .lss 3 t7 t78) w fun t79 w =>
            CondP t79 (
              Does Try.prog (Instr.fieldAt 38 o1 4) w fun t83 w =>
              Does Try.prog (Instr.loadAt 23 t83) w fun t84 w =>
              Does Try.prog (Instr.indexAt 23 t84 t7) w fun t86 w =>
              Does Try.prog (Instr.loadAt 9 t86) w fun t87 w =>
              Call Try.prog 78 #[t87] w fun t88 w =>
              Does Try.prog (Builtin.append_ #[34, 34] 34 #[r4, t88]) w fun t89 w =>
              Does Try.prog (binOp .add 3 t7 (Go.Value.int Go.IntKind.i64 1)) w fun t81 w =>
              next2 t89 t81 w
            ) (
              DrawP Try.prog 109 (opsOf Try.f56 21) [1, 4] [o1, r4] [4] (fun r4 w => ∀ _ : Nat → Value,
              Does Try.prog (Instr.fieldAt 38 o1 7) w fun t105 w =>
              Does Try.prog (Instr.loadAt 9 t105) w fun t106 w =>
              Does Try.prog (Builtin.append_ #[34, 9] 34 #[r4, t106]) w fun t107 w =>
              R (Value.tuple #[t107, (Go.Value.int Go.IntKind.i64 0)]) w
) w
            )
          ) r4 (Go.Value.int Go.IntKind.i64 0) w
) w
        ) (
          R (Value.tuple #[t14, (Go.Value.int Go.IntKind.i64 0)]) w
        )
      )
    )
  )
theorem has56 : hasBody Try.prog 56 = true := by kernel_rfl
theorem vc56 {R : Value → World → Prop} {a0 : Value} {w : World} (h : V56 R a0 w) : Call Try.prog 56 #[a0] w R :=
  vc_of (args := [a0]) 109 ⟨lk [(10, [4, 5]), (18, [4, 7])], lkO [], lk [(13, [4, 6]), (16, [1, 4]), (21, [1, 4])], lk [(13, [4]), (16, [4]), (21, [4])]⟩ Try.func56 rfl Try.ntmps56 rfl has56 mixed (Eq.mp (by kernel_rfl) h)

/-- marline/marref.Bytes -/
def V57 (R : Value → World → Prop) (a0 a1 : Value) (w : World) : Prop :=
  Does Try.prog (convert 34 9 a0) w fun t6 w =>
  Does Try.prog (convert 34 9 a1) w fun t8 w =>
  Does Try.prog (eqE .eql 9 (Go.Operand.tmp 6) (Go.Operand.tmp 8) t6 t8) w fun t9 w =>
  R t9 w
theorem has57 : hasBody Try.prog 57 = true := by kernel_rfl
theorem vc57 {R : Value → World → Prop} {a0 a1 : Value} {w : World} (h : V57 R a0 a1 w) : Call Try.prog 57 #[a0, a1] w R :=
  vc_of (args := [a0, a1]) 10 ⟨lk [], lkO [], lk [], lk []⟩ Try.func57 rfl Try.ntmps57 rfl has57 mixed (Eq.mp (by kernel_rfl) h)

/-- marline/wire.Unique -/
def V58 (R : Value → World → Prop) (a0 : Value) (w : World) : Prop :=
  Call Try.prog 51 #[a0] w fun t4 w =>
  Call Try.prog 79 #[t4] w fun t5 w =>
  R t5 w
theorem has58 : hasBody Try.prog 58 = true := by kernel_rfl
theorem vc58 {R : Value → World → Prop} {a0 : Value} {w : World} (h : V58 R a0 w) : Call Try.prog 58 #[a0] w R :=
  vc_of (args := [a0]) 6 ⟨lk [], lkO [], lk [], lk []⟩ Try.func58 rfl Try.ntmps58 rfl has58 mixed (Eq.mp (by kernel_rfl) h)

/-- (*marline/marref9.Graph).at -/
def V59 (R : Value → World → Prop) (a0 a1 : Value) (w : World) : Prop :=
  Rounds 1 (fun next1 i5 w => ∀ _ : Nat → Value,
    NilCheckP a0 fun t8 =>
    Does Try.prog (Instr.fieldAt 52 t8 0) w fun t9 w =>
    Does Try.prog (Instr.loadAt 23 t9) w fun t10 w =>
    Does Try.prog (Builtin.len_ #[23] 3 #[t10]) w fun t11 w =>
    Does Try.prog (binOp .lss 3 i5 t11) w fun t12 w =>
    CondP t12 (
      NilCheckP a0 fun t16 =>
      Does Try.prog (Instr.fieldAt 52 t16 0) w fun t17 w =>
      Does Try.prog (Instr.loadAt 23 t17) w fun t18 w =>
      Does Try.prog (Instr.indexAt 23 t18 i5) w fun t20 w =>
      Does Try.prog (Instr.loadAt 9 t20) w fun t21 w =>
      Does Try.prog (eqE .eql 9 (Go.Operand.tmp 21) (Go.Operand.tmp 22) t21 a1) w fun t23 w =>
      CondP t23 (
        R i5 w
      ) (
        Does Try.prog (binOp .add 3 i5 (Go.Value.int Go.IntKind.i64 1)) w fun t14 w =>
        next1 t14 w
      )
    ) (
      R (Go.Value.int Go.IntKind.i64 (-1)) w
    )
  ) (Go.Value.int Go.IntKind.i64 0) w
theorem has59 : hasBody Try.prog 59 = true := by kernel_rfl
theorem vc59 {R : Value → World → Prop} {a0 a1 : Value} {w : World} (h : V59 R a0 a1 w) : Call Try.prog 59 #[a0, a1] w R :=
  vc_of (args := [a0, a1]) 25 ⟨lk [(2, [5])], lkO [], lk [], lk []⟩ Try.func59 rfl Try.ntmps59 rfl has59 mixed (Eq.mp (by kernel_rfl) h)

/-- (*marline/dag.Graph).reach -/
def V60 (R : Value → World → Prop) (a0 a1 : Value) (w : World) : Prop :=
  Does Try.prog (Instr.makeMap 77 none) w fun t11 w =>
  Call Try.prog 48 #[a1] w fun t13 w =>
  Rounds 1 (fun next1 work7 w => ∀ _ : Nat → Value,
    Does Try.prog (Builtin.len_ #[23] 3 #[work7]) w fun t15 w =>
    Does Try.prog (binOp .gtr 3 t15 (Go.Value.int Go.IntKind.i64 0)) w fun t16 w =>
    CondP t16 (
      Does Try.prog (Builtin.len_ #[23] 3 #[work7]) w fun t19 w =>
      Does Try.prog (binOp .sub 3 t19 (Go.Value.int Go.IntKind.i64 1)) w fun t20 w =>
      Does Try.prog (Instr.indexAt 23 work7 t20) w fun t21 w =>
      Does Try.prog (Instr.loadAt 9 t21) w fun t22 w =>
      Does Try.prog (Builtin.len_ #[23] 3 #[work7]) w fun t25 w =>
      Does Try.prog (binOp .sub 3 t25 (Go.Value.int Go.IntKind.i64 1)) w fun t26 w =>
      Does Try.prog (Instr.sliceAt 23 work7 none (some t26) none) w fun t27 w =>
      Call Try.prog 26 #[a0, t22] w fun t30 w =>
      Does Try.prog (Op.unary Go.UnOp.not t30) w fun t31 w =>
      CondP t31 (
        R (Value.tuple #[(Go.Value.map none), (Go.Value.int Go.IntKind.i64 7)]) w
      ) (
        Does Try.prog (Instr.lookup 77 t11 t22 true) w fun t35 w =>
        Does Try.prog (Instr.extract t35 0) w fun t36 w =>
        Does Try.prog (Instr.extract t35 1) w fun t37 w =>
        CondP t37 (
          next1 t27 w
        ) (
          Does Try.prog (Instr.mapUpdate 77 t11 t22 (Go.Value.int Go.IntKind.i64 1)) w fun _ w =>
          NilCheckP a0 fun t43 =>
          Does Try.prog (Instr.fieldAt 92 t43 0) w fun t44 w =>
          Does Try.prog (Instr.loadAt 90 t44) w fun t45 w =>
          Does Try.prog (Instr.lookup 90 t45 t22 false) w fun t47 w =>
          Does Try.prog (Instr.field 94 t47 0) w fun t48 w =>
          Does Try.prog (Builtin.append_ #[23, 23] 23 #[t27, t48]) w fun t49 w =>
          next1 t49 w
        )
      )
    ) (
      R (Value.tuple #[t11, (Go.Value.int Go.IntKind.i64 0)]) w
    )
  ) t13 w
theorem has60 : hasBody Try.prog 60 = true := by kernel_rfl
theorem vc60 {R : Value → World → Prop} {a0 a1 : Value} {w : World} (h : V60 R a0 a1 w) : Call Try.prog 60 #[a0, a1] w R :=
  vc_of (args := [a0, a1]) 51 ⟨lk [(3, [7])], lkO [], lk [], lk []⟩ Try.func60 rfl Try.ntmps60 rfl has60 mixed (Eq.mp (by kernel_rfl) h)

/-- marline/dag.keys -/
def V61 (R : Value → World → Prop) (a0 : Value) (w : World) : Prop :=
  Does Try.prog (Instr.range 77 a0) w fun t6 w =>
  Rounds 1 (fun next1 l3 w => ∀ _ : Nat → Value,
    Does Try.prog (Instr.next t6 false 0) w fun t7 w =>
    Does Try.prog (Instr.extract t7 0) w fun t8 w =>
    CondP t8 (
      Does Try.prog (Instr.entry t6) w fun t9 w =>
      Does Try.prog (Instr.extract t9 0) w fun t10 w =>
      Does Try.prog (Instr.buildSlice 23 1 #[(0, t10)]) w fun t13 w =>
      Does Try.prog (Builtin.append_ #[23, 23] 23 #[l3, t13]) w fun t14 w =>
      next1 t14 w
    ) (
      Call Try.prog 51 #[l3] w fun t16 w =>
      R t16 w
    )
  ) (Go.Value.slice none 0 0) w
theorem has61 : hasBody Try.prog 61 = true := by kernel_rfl
theorem vc61 {R : Value → World → Prop} {a0 : Value} {w : World} (h : V61 R a0 w) : Call Try.prog 61 #[a0] w R :=
  vc_of (args := [a0]) 17 ⟨lk [(3, [3])], lkO [], lk [], lk []⟩ Try.func61 rfl Try.ntmps61 rfl has61 mixed (Eq.mp (by kernel_rfl) h)

/-- (*marline/dag.Graph).nearest -/
def V62 (R : Value → World → Prop) (a0 a1 : Value) (w : World) : Prop :=
  Does Try.prog (Instr.makeMap 77 none) w fun t9 w =>
  Does Try.prog (Instr.alloc 77 true (.tuple #[])) w fun covered5 w =>
  Does Try.prog (Instr.storeAt 77 covered5 t9) w fun _ w =>
  Does Try.prog (Instr.range 77 a1) w fun t11 w =>
  Rounds 0 (fun next1  w => ∀ _ : Nat → Value,
    Does Try.prog (Instr.next t11 false 0) w fun t12 w =>
    Does Try.prog (Instr.extract t12 0) w fun t13 w =>
    CondP t13 (
      Does Try.prog (Instr.entry t11) w fun t14 w =>
      Does Try.prog (Instr.extract t14 0) w fun t15 w =>
      NilCheckP a0 fun t17 =>
      Does Try.prog (Instr.fieldAt 92 t17 0) w fun t18 w =>
      Does Try.prog (Instr.loadAt 90 t18) w fun t19 w =>
      Does Try.prog (Instr.lookup 90 t19 t15 false) w fun t21 w =>
      Does Try.prog (Instr.field 94 t21 0) w fun t22 w =>
      Does Try.prog (Builtin.len_ #[23] 3 #[t22]) w fun t23 w =>
      Rounds 1 (fun next2 t24 w => ∀ _ : Nat → Value,
        Does Try.prog (binOp .lss 3 t24 t23) w fun t25 w =>
        CondP t25 (
          Does Try.prog (Instr.indexAt 23 t22 t24) w fun t26 w =>
          Does Try.prog (Instr.loadAt 9 t26) w fun t27 w =>
          Does Try.prog (Instr.loadAt 77 covered5) w fun t28 w =>
          Does Try.prog (Instr.mapUpdate 77 t28 t27 (Go.Value.int Go.IntKind.i64 1)) w fun _ w =>
          Does Try.prog (binOp .add 3 t24 (Go.Value.int Go.IntKind.i64 1)) w fun t30 w =>
          next2 t30 w
        ) (
          next1  w
        )
      ) (Go.Value.int Go.IntKind.i64 0) w
    ) (
      Call Try.prog 61 #[a1] w fun t32 w =>
      Call Try.prog 66 #[t32, (Value.func (Go.Fn.func 80) #[] #[covered5])] w fun t34 w =>
      R t34 w
    )
  )  w
theorem has62 : hasBody Try.prog 62 = true := by kernel_rfl
theorem vc62 {R : Value → World → Prop} {a0 a1 : Value} {w : World} (h : V62 R a0 a1 w) : Call Try.prog 62 #[a0, a1] w R :=
  vc_of (args := [a0, a1]) 35 ⟨lk [(3, []), (6, [24])], lkO [], lk [], lk []⟩ Try.func62 rfl Try.ntmps62 rfl has62 mixed (Eq.mp (by kernel_rfl) h)

/-- slices.SortStableFunc[[]string,string] -/
def V63 (R : Value → World → Prop) (a0 a1 : Value) (w : World) : Prop :=
  Does Try.prog (Builtin.len_ #[23] 3 #[a0]) w fun t6 w =>
  Call Try.prog 81 #[a0, t6, a1] w fun t8 w =>
  R (Value.tuple #[]) w
theorem has63 : hasBody Try.prog 63 = true := by kernel_rfl
theorem vc63 {R : Value → World → Prop} {a0 a1 : Value} {w : World} (h : V63 R a0 a1 w) : Call Try.prog 63 #[a0, a1] w R :=
  vc_of (args := [a0, a1]) 9 ⟨lk [], lkO [], lk [], lk []⟩ Try.func63 rfl Try.ntmps63 rfl has63 mixed (Eq.mp (by kernel_rfl) h)

/-- (*marline/dag.Graph).Order$1 -/
def V64 (R : Value → World → Prop) (a0 a1 a2 : Value) (w : World) : Prop :=
  DrawP Try.prog 21 (opsOf Try.f64 1) [0, 1, 2] [a0, a1, a2] [5] (fun t5 w => ∀ _ : Nat → Value,
  R t5 w
) w
theorem has64 : hasBody Try.prog 64 = true := by kernel_rfl
theorem vc64 {R : Value → World → Prop} {a0 a1 a2 : Value} {w : World} (h : V64 R a0 a1 a2 w) : Call Try.prog 64 #[a0, a1, a2] w R :=
  vc_of (args := [a0, a1, a2]) 21 ⟨lk [], lkO [], lk [(1, [0, 1, 2])], lk [(1, [5])]⟩ Try.func64 rfl Try.ntmps64 rfl has64 mixed (Eq.mp (by kernel_rfl) h)

/-- marline/wire.Merge -/
def V65 (R : Value → World → Prop) (a0 a1 : Value) (w : World) : Prop :=
  Call Try.prog 51 #[a0] w fun t6 w =>
  Call Try.prog 51 #[a1] w fun t8 w =>
  Call Try.prog 74 #[t6, t8] w fun t9 w =>
  Call Try.prog 79 #[t9] w fun t10 w =>
  R t10 w
theorem has65 : hasBody Try.prog 65 = true := by kernel_rfl
theorem vc65 {R : Value → World → Prop} {a0 a1 : Value} {w : World} (h : V65 R a0 a1 w) : Call Try.prog 65 #[a0, a1] w R :=
  vc_of (args := [a0, a1]) 11 ⟨lk [], lkO [], lk [], lk []⟩ Try.func65 rfl Try.ntmps65 rfl has65 mixed (Eq.mp (by kernel_rfl) h)

/-- slices.DeleteFunc[[]string,string] -/
def V66 (R : Value → World → Prop) (a0 a1 : Value) (w : World) : Prop :=
  Call Try.prog 82 #[a0, a1] w fun t10 w =>
  Does Try.prog (eqE .eql 3 (Go.Operand.tmp 11) (Go.Operand.const (Go.Value.int Go.IntKind.i64 (-1))) t10 (Go.Value.int Go.IntKind.i64 (-1))) w fun t12 w =>
  CondP t12 (
    R a0 w
  ) (
    Does Try.prog (binOp .add 3 t10 (Go.Value.int Go.IntKind.i64 1)) w fun t15 w =>
    Rounds 2 (fun next1 i5 j6 w => ∀ _ : Nat → Value,
      Does Try.prog (Builtin.len_ #[23] 3 #[a0]) w fun t18 w =>
      Does Try.prog (binOp .lss 3 j6 t18) w fun t19 w =>
      CondP t19 (
        Does Try.prog (Instr.indexAt 23 a0 j6) w fun t24 w =>
        Does Try.prog (Instr.loadAt 9 t24) w fun t25 w =>
        CallV Try.prog a1 #[t25] w fun t28 w =>
        Does Try.prog (Op.unary Go.UnOp.not t28) w fun t29 w =>
        CondP t29 (
          Does Try.prog (Instr.indexAt 23 a0 i5) w fun t33 w =>
          Does Try.prog (Instr.storeAt 9 t33 t25) w fun _ w =>
          Does Try.prog (binOp .add 3 i5 (Go.Value.int Go.IntKind.i64 1)) w fun t35 w =>
          Does Try.prog (binOp .add 3 j6 (Go.Value.int Go.IntKind.i64 1)) w fun t21 w =>
          next1 t35 t21 w
        ) (
          Does Try.prog (binOp .add 3 j6 (Go.Value.int Go.IntKind.i64 1)) w fun t21 w =>
          next1 i5 t21 w
        )
      ) (
        Does Try.prog (Instr.sliceAt 23 a0 (some i5) none none) w fun t38 w =>
        Does Try.prog (Builtin.clear_ #[23] 0 #[t38]) w fun _ w =>
        Does Try.prog (Instr.sliceAt 23 a0 none (some i5) none) w fun t41 w =>
        R t41 w
      )
    ) t10 t15 w
  )
theorem has66 : hasBody Try.prog 66 = true := by kernel_rfl
theorem vc66 {R : Value → World → Prop} {a0 a1 : Value} {w : World} (h : V66 R a0 a1 w) : Call Try.prog 66 #[a0, a1] w R :=
  vc_of (args := [a0, a1]) 42 ⟨lk [(5, [5, 6])], lkO [], lk [], lk []⟩ Try.func66 rfl Try.ntmps66 rfl has66 mixed (Eq.mp (by kernel_rfl) h)

/-- marline/reach.Diff$1 -/
def V67 (R : Value → World → Prop) (a0 a1 : Value) (w : World) : Prop :=
  Does Try.prog (Instr.loadAt 23 a1) w fun t7 w =>
  Call Try.prog 68 #[t7, a0] w fun t9 w =>
  Does Try.prog (Instr.extract t9 0) w fun t10 w =>
  Does Try.prog (Instr.extract t9 1) w fun t11 w =>
  R t11 w
theorem has67 : hasBody Try.prog 67 = true := by kernel_rfl
theorem vc67 {R : Value → World → Prop} {a0 a1 : Value} {w : World} (h : V67 R a0 a1 w) : Call Try.prog 67 #[a0, a1] w R :=
  vc_of (args := [a0, a1]) 13 ⟨lk [], lkO [], lk [], lk []⟩ Try.func67 rfl Try.ntmps67 rfl has67 mixed (Eq.mp (by kernel_rfl) h)

/-- slices.BinarySearch[[]string,string] -/
def V68 (R : Value → World → Prop) (a0 a1 : Value) (w : World) : Prop :=
  Does Try.prog (Builtin.len_ #[23] 3 #[a0]) w fun t11 w =>
  Rounds 2 (fun next1 i7 j8 w => ∀ _ : Nat → Value,
    Does Try.prog (binOp .lss 3 i7 j8) w fun t15 w =>
    CondP t15 (
      Does Try.prog (binOp .add 3 i7 j8) w fun t18 w =>
      Does Try.prog (convert 3 112 t18) w fun t19 w =>
      Does Try.prog (binOp .shr 112 t19 (Go.Value.int Go.IntKind.u64 1)) w fun t20 w =>
      Does Try.prog (convert 112 3 t20) w fun t21 w =>
      Does Try.prog (Instr.indexAt 23 a0 t21) w fun t24 w =>
      Does Try.prog (Instr.loadAt 9 t24) w fun t25 w =>
      Call Try.prog 83 #[t25, a1] w fun t27 w =>
      CondP t27 (
        Does Try.prog (binOp .add 3 t21 (Go.Value.int Go.IntKind.i64 1)) w fun t29 w =>
        next1 t29 j8 w
      ) (
        next1 i7 t21 w
      )
    ) (
      Does Try.prog (binOp .lss 3 i7 t11) w fun t34 w =>
      JoinP 1 (fun j2 => GuardP t34 true (
        Does Try.prog (Instr.indexAt 23 a0 i7) w fun t38 w =>
        Does Try.prog (Instr.loadAt 9 t38) w fun t39 w =>
        Does Try.prog (eqE .eql 9 (Go.Operand.tmp 39) (Go.Operand.tmp 40) t39 a1) w fun t41 w =>
        j2 t41 w
      ) (j2 undef w))
      (fun t42 w => ∀ _ : Nat → Value,
      JoinP 1 (fun j3 => GuardP t42 false (
        Does Try.prog (Instr.indexAt 23 a0 i7) w fun t45 w =>
        Does Try.prog (Instr.loadAt 9 t45) w fun t46 w =>
        Call Try.prog 84 #[t46] w fun t47 w =>
        j3 t47 w
      ) (j3 undef w))
      (fun t48 w => ∀ _ : Nat → Value,
      JoinP 1 (fun j4 => GuardP t48 true (
        Call Try.prog 84 #[a1] w fun t50 w =>
        j4 t50 w
      ) (j4 undef w))
      (fun t50 w => ∀ _ : Nat → Value,
      JoinP 1 (fun j5 => GuardP t42 false (
        PickP t48 t50 (Go.Value.bool false) fun t51 =>
        j5 t51 w
      ) (j5 undef w))
      (fun t51 w => ∀ _ : Nat → Value,
      JoinP 1 (fun j6 => GuardP t34 true (
        PickP t42 (Go.Value.bool true) t51 fun t52 =>
        j6 t52 w
      ) (j6 undef w))
      (fun t52 w => ∀ _ : Nat → Value,
      PickP t34 t52 (Go.Value.bool false) fun t53 =>
      R (Value.tuple #[i7, t53]) w
      )
      )
      )
      )
      )
    )
  ) (Go.Value.int Go.IntKind.i64 0) t11 w
theorem has68 : hasBody Try.prog 68 = true := by kernel_rfl
theorem vc68 {R : Value → World → Prop} {a0 a1 : Value} {w : World} (h : V68 R a0 a1 w) : Call Try.prog 68 #[a0, a1] w R :=
  vc_of (args := [a0, a1]) 54 ⟨lk [(3, [7, 8])], lkO [], lk [], lk []⟩ Try.func68 rfl Try.ntmps68 rfl has68 mixed (Eq.mp (by kernel_rfl) h)

/-- marline/obj.May -/
def V69 (R : Value → World → Prop) (a0 : Value) (w : World) : Prop :=
  Does Try.prog (Instr.box 72 a0) w fun o1 w =>
  Does Try.prog (Instr.fieldAt 72 o1 0) w fun r3 w =>
  Does Try.prog (Instr.loadAt 3 r3) w fun r4 w =>
  Does Try.prog (eqE .eql 3 (Go.Operand.tmp 4) (Go.Operand.const (Go.Value.int Go.IntKind.i64 1)) r4 (Go.Value.int Go.IntKind.i64 1)) w fun y6 w =>
  CondP y6 (
    Does Try.prog (Instr.fieldAt 72 o1 1) w fun t7 w =>
    Does Try.prog (Instr.loadAt 34 t7) w fun t8 w =>
    Does Try.prog (Builtin.len_ #[34] 3 #[t8]) w fun t9 w =>
    Does Try.prog (binOp .leq 3 t9 (Go.Value.int Go.IntKind.i64 20000)) w fun t10 w =>
    JoinP 1 (fun j1 => GuardP t10 true (
      Does Try.prog (Instr.fieldAt 72 o1 2) w fun t12 w =>
      Does Try.prog (Instr.loadAt 70 t12) w fun t13 w =>
      Does Try.prog (Builtin.len_ #[70] 3 #[t13]) w fun t14 w =>
      Does Try.prog (eqE .eql 3 (Go.Operand.tmp 14) (Go.Operand.const (Go.Value.int Go.IntKind.i64 0)) t14 (Go.Value.int Go.IntKind.i64 0)) w fun t15 w =>
      j1 t15 w
    ) (j1 undef w))
    (fun t15 w => ∀ _ : Nat → Value,
    PickP t10 t15 (Go.Value.bool false) fun t16 =>
    JoinP 1 (fun j2 => GuardP t16 true (
      Does Try.prog (Instr.loadAt 72 o1) w fun t18 w =>
      Call Try.prog 85 #[t18] w fun t19 w =>
      j2 t19 w
    ) (j2 undef w))
    (fun t19 w => ∀ _ : Nat → Value,
    PickP t16 t19 (Go.Value.bool false) fun t20 =>
    R t20 w
    )
    )
  ) (
    Does Try.prog (eqE .eql 3 (Go.Operand.tmp 4) (Go.Operand.const (Go.Value.int Go.IntKind.i64 2)) r4 (Go.Value.int Go.IntKind.i64 2)) w fun t22 w =>
    CondP t22 (
      Does Try.prog (Instr.fieldAt 72 o1 1) w fun t23 w =>
      Does Try.prog (Instr.loadAt 34 t23) w fun t24 w =>
      Does Try.prog (Builtin.len_ #[34] 3 #[t24]) w fun t25 w =>
      Does Try.prog (eqE .eql 3 (Go.Operand.tmp 25) (Go.Operand.const (Go.Value.int Go.IntKind.i64 0)) t25 (Go.Value.int Go.IntKind.i64 0)) w fun t26 w =>
      JoinP 1 (fun j3 => GuardP t26 true (
        Does Try.prog (Instr.fieldAt 72 o1 2) w fun t28 w =>
        Does Try.prog (Instr.loadAt 70 t28) w fun t29 w =>
        Call Try.prog 86 #[t29] w fun t30 w =>
        j3 t30 w
      ) (j3 undef w))
      (fun t30 w => ∀ _ : Nat → Value,
      PickP t26 t30 (Go.Value.bool false) fun t31 =>
      JoinP 1 (fun j4 => GuardP t31 true (
        Does Try.prog (Instr.loadAt 72 o1) w fun t33 w =>
        Call Try.prog 85 #[t33] w fun t34 w =>
        j4 t34 w
      ) (j4 undef w))
      (fun t34 w => ∀ _ : Nat → Value,
      PickP t31 t34 (Go.Value.bool false) fun t35 =>
      R t35 w
      )
      )
    ) (
      Does Try.prog (eqE .eql 3 (Go.Operand.tmp 4) (Go.Operand.const (Go.Value.int Go.IntKind.i64 3)) r4 (Go.Value.int Go.IntKind.i64 3)) w fun t37 w =>
      CondP t37 (
        Does Try.prog (Instr.fieldAt 72 o1 1) w fun t38 w =>
        Does Try.prog (Instr.loadAt 34 t38) w fun t39 w =>
        Does Try.prog (Builtin.len_ #[34] 3 #[t39]) w fun t40 w =>
        Does Try.prog (eqE .eql 3 (Go.Operand.tmp 40) (Go.Operand.const (Go.Value.int Go.IntKind.i64 0)) t40 (Go.Value.int Go.IntKind.i64 0)) w fun t41 w =>
        JoinP 1 (fun j5 => GuardP t41 true (
          Does Try.prog (Instr.fieldAt 72 o1 2) w fun t43 w =>
          Does Try.prog (Instr.loadAt 70 t43) w fun t44 w =>
          Does Try.prog (Builtin.len_ #[70] 3 #[t44]) w fun t45 w =>
          Does Try.prog (eqE .eql 3 (Go.Operand.tmp 45) (Go.Operand.const (Go.Value.int Go.IntKind.i64 0)) t45 (Go.Value.int Go.IntKind.i64 0)) w fun t46 w =>
          j5 t46 w
        ) (j5 undef w))
        (fun t46 w => ∀ _ : Nat → Value,
        PickP t41 t46 (Go.Value.bool false) fun t47 =>
        JoinP 1 (fun j6 => GuardP t47 true (
          Does Try.prog (Instr.fieldAt 72 o1 3) w fun t49 w =>
          Does Try.prog (Instr.loadAt 9 t49) w fun t50 w =>
          Call Try.prog 87 #[t50] w fun t51 w =>
          j6 t51 w
        ) (j6 undef w))
        (fun t51 w => ∀ _ : Nat → Value,
        PickP t47 t51 (Go.Value.bool false) fun t52 =>
        JoinP 1 (fun j7 => GuardP t52 true (
          Does Try.prog (Instr.fieldAt 72 o1 4) w fun t54 w =>
          Does Try.prog (Instr.loadAt 23 t54) w fun t55 w =>
          Call Try.prog 88 #[t55] w fun t56 w =>
          j7 t56 w
        ) (j7 undef w))
        (fun t56 w => ∀ _ : Nat → Value,
        PickP t52 t56 (Go.Value.bool false) fun t57 =>
        JoinP 1 (fun j8 => GuardP t57 true (
          Does Try.prog (Instr.fieldAt 72 o1 5) w fun t59 w =>
          Does Try.prog (Instr.loadAt 3 t59) w fun t60 w =>
          Does Try.prog (binOp .geq 3 t60 (Go.Value.int Go.IntKind.i64 0)) w fun t61 w =>
          j8 t61 w
        ) (j8 undef w))
        (fun t61 w => ∀ _ : Nat → Value,
        PickP t57 t61 (Go.Value.bool false) fun t62 =>
        JoinP 1 (fun j9 => GuardP t62 true (
          Does Try.prog (Instr.fieldAt 72 o1 5) w fun t64 w =>
          Does Try.prog (Instr.loadAt 3 t64) w fun t65 w =>
          Does Try.prog (binOp .leq 3 t65 (Go.Value.int Go.IntKind.i64 1099511627776)) w fun t66 w =>
          j9 t66 w
        ) (j9 undef w))
        (fun t66 w => ∀ _ : Nat → Value,
        PickP t62 t66 (Go.Value.bool false) fun t67 =>
        JoinP 1 (fun j10 => GuardP t67 true (
          Does Try.prog (Instr.fieldAt 72 o1 6) w fun t69 w =>
          Does Try.prog (Instr.loadAt 3 t69) w fun t70 w =>
          Does Try.prog (binOp .geq 3 t70 (Go.Value.int Go.IntKind.i64 0)) w fun t71 w =>
          j10 t71 w
        ) (j10 undef w))
        (fun t71 w => ∀ _ : Nat → Value,
        PickP t67 t71 (Go.Value.bool false) fun t72 =>
        JoinP 1 (fun j11 => GuardP t72 true (
          Does Try.prog (Instr.fieldAt 72 o1 6) w fun t74 w =>
          Does Try.prog (Instr.loadAt 3 t74) w fun t75 w =>
          Does Try.prog (binOp .leq 3 t75 (Go.Value.int Go.IntKind.i64 255)) w fun t76 w =>
          j11 t76 w
        ) (j11 undef w))
        (fun t76 w => ∀ _ : Nat → Value,
        PickP t72 t76 (Go.Value.bool false) fun t77 =>
        JoinP 1 (fun j12 => GuardP t77 true (
          Does Try.prog (Instr.fieldAt 72 o1 7) w fun t79 w =>
          Does Try.prog (Instr.loadAt 9 t79) w fun t80 w =>
          Call Try.prog 89 #[t80] w fun t81 w =>
          j12 t81 w
        ) (j12 undef w))
        (fun t81 w => ∀ _ : Nat → Value,
        PickP t77 t81 (Go.Value.bool false) fun t82 =>
        R t82 w
        )
        )
        )
        )
        )
        )
        )
        )
      ) (
        R (Go.Value.bool false) w
      )
    )
  )
theorem has69 : hasBody Try.prog 69 = true := by kernel_rfl
theorem vc69 {R : Value → World → Prop} {a0 : Value} {w : World} (h : V69 R a0 w) : Call Try.prog 69 #[a0] w R :=
  vc_of (args := [a0]) 83 ⟨lk [], lkO [], lk [], lk []⟩ Try.func69 rfl Try.ntmps69 rfl has69 mixed (Eq.mp (by kernel_rfl) h)

/-- marline/obj.number -/
def V70 (R : Value → World → Prop) (a0 a1 : Value) (w : World) : Prop :=
  Call Try.prog 90 #[a1] w fun t9 w =>
  Does Try.prog (Instr.extract t9 0) w fun t10 w =>
  Does Try.prog (Instr.extract t9 1) w fun t11 w =>
  Does Try.prog (Builtin.append_ #[34, 34] 34 #[a0, t10]) w fun t14 w =>
  R t14 w
theorem has70 : hasBody Try.prog 70 = true := by kernel_rfl
theorem vc70 {R : Value → World → Prop} {a0 a1 : Value} {w : World} (h : V70 R a0 a1 w) : Call Try.prog 70 #[a0, a1] w R :=
  vc_of (args := [a0, a1]) 15 ⟨lk [], lkO [], lk [], lk []⟩ Try.func70 rfl Try.ntmps70 rfl has70 mixed (Eq.mp (by kernel_rfl) h)

/-- marline/obj.hash -/
def V71 (R : Value → World → Prop) (a0 a1 : Value) (w : World) : Prop :=
  Call Try.prog 91 #[a1] w fun t9 w =>
  Does Try.prog (Instr.extract t9 0) w fun t10 w =>
  Does Try.prog (Instr.extract t9 1) w fun t11 w =>
  Does Try.prog (Builtin.append_ #[34, 34] 34 #[a0, t10]) w fun t14 w =>
  R t14 w
theorem has71 : hasBody Try.prog 71 = true := by kernel_rfl
theorem vc71 {R : Value → World → Prop} {a0 a1 : Value} {w : World} (h : V71 R a0 a1 w) : Call Try.prog 71 #[a0, a1] w R :=
  vc_of (args := [a0, a1]) 15 ⟨lk [], lkO [], lk [], lk []⟩ Try.func71 rfl Try.ntmps71 rfl has71 mixed (Eq.mp (by kernel_rfl) h)

/-- marline/marref1.Sum -/
def V72 (R : Value → World → Prop) (a0 : Value) (w : World) : Prop :=
  Call Try.prog 92 #[] w fun t25 w =>
  Does Try.prog (Instr.buildSlice 118 8 #[(0, (Go.Value.int Go.IntKind.u32 1779033703)), (1, (Go.Value.int Go.IntKind.u32 3144134277)), (2, (Go.Value.int Go.IntKind.u32 1013904242)), (3, (Go.Value.int Go.IntKind.u32 2773480762)), (4, (Go.Value.int Go.IntKind.u32 1359893119)), (5, (Go.Value.int Go.IntKind.u32 2600822924)), (6, (Go.Value.int Go.IntKind.u32 528734635)), (7, (Go.Value.int Go.IntKind.u32 1541459225))]) w fun t26 w =>
  Call Try.prog 46 #[a0] w fun t28 w =>
  Does Try.prog (Instr.buildSlice 34 1 #[(0, (Go.Value.int Go.IntKind.u8 128))]) w fun t29 w =>
  Does Try.prog (Builtin.append_ #[34, 34] 34 #[t28, t29]) w fun t30 w =>
  Rounds 1 (fun next1 a5 w => ∀ _ : Nat → Value,
    Does Try.prog (Builtin.len_ #[34] 3 #[a5]) w fun t32 w =>
    Does Try.prog (binOp .rem 3 t32 (Go.Value.int Go.IntKind.i64 64)) w fun t33 w =>
    Does Try.prog (eqE .neq 3 (Go.Operand.tmp 33) (Go.Operand.const (Go.Value.int Go.IntKind.i64 56)) t33 (Go.Value.int Go.IntKind.i64 56)) w fun t34 w =>
    CondP t34 (
      Does Try.prog (Instr.buildSlice 34 1 #[(0, (Go.Value.int Go.IntKind.u8 0))]) w fun t36 w =>
      Does Try.prog (Builtin.append_ #[34, 34] 34 #[a5, t36]) w fun t37 w =>
      next1 t37 w
    ) (
      Does Try.prog (Builtin.len_ #[34] 3 #[a0]) w fun t39 w =>
      Does Try.prog (convert 3 121 t39) w fun t40 w =>
      Does Try.prog (binOp .mul 121 t40 (Go.Value.int Go.IntKind.u64 8)) w fun t41 w =>
      Rounds 2 (fun next2 a5 t7 w => ∀ _ : Nat → Value,
        Does Try.prog (binOp .geq 3 t7 (Go.Value.int Go.IntKind.i64 0)) w fun t43 w =>
        CondP t43 (
          Does Try.prog (binOp .mul 3 (Go.Value.int Go.IntKind.i64 8) t7) w fun t49 w =>
          Does Try.prog (binOp .shr 121 t41 t49) w fun t50 w =>
          Does Try.prog (convert 121 5 t50) w fun t51 w =>
          Does Try.prog (Instr.buildSlice 34 1 #[(0, t51)]) w fun t52 w =>
          Does Try.prog (Builtin.append_ #[34, 34] 34 #[a5, t52]) w fun t53 w =>
          Does Try.prog (binOp .sub 3 t7 (Go.Value.int Go.IntKind.i64 1)) w fun t45 w =>
          next2 t53 t45 w
        ) (
          Does Try.prog (Instr.makeSlice 118 (Go.Value.int Go.IntKind.i64 64) (Go.Value.int Go.IntKind.i64 64)) w fun t54 w =>
          Rounds 1 (fun next3 t9 w => ∀ _ : Nat → Value,
            Does Try.prog (Builtin.len_ #[34] 3 #[a5]) w fun t57 w =>
            Does Try.prog (binOp .lss 3 t9 t57) w fun t58 w =>
            CondP t58 (
              Rounds 1 (fun next4 t10 w => ∀ _ : Nat → Value,
                Does Try.prog (binOp .lss 3 t10 (Go.Value.int Go.IntKind.i64 16)) w fun t62 w =>
                CondP t62 (
                  Does Try.prog (binOp .mul 3 (Go.Value.int Go.IntKind.i64 4) t10) w fun t67 w =>
                  Does Try.prog (binOp .add 3 t9 t67) w fun t68 w =>
                  DrawP Try.prog 305 (opsOf Try.f72 19) [5, 8, 10, 11] [a5, t54, t10, t68] [] (fun  w => ∀ _ : Nat → Value,
                  Does Try.prog (binOp .add 3 t10 (Go.Value.int Go.IntKind.i64 1)) w fun t64 w =>
                  next4 t64 w
) w
                ) (
                  Rounds 1 (fun next5 t12 w => ∀ _ : Nat → Value,
                    Does Try.prog (binOp .lss 3 t12 (Go.Value.int Go.IntKind.i64 64)) w fun t102 w =>
                    CondP t102 (
                      DrawP Try.prog 305 (opsOf Try.f72 23) [8, 12] [t54, t12] [13] (fun t13 w => ∀ _ : Nat → Value,
                      DrawP Try.prog 305 (opsOf Try.f72 24) [8, 12] [t54, t12] [14] (fun t14 w => ∀ _ : Nat → Value,
                      DrawP Try.prog 305 (opsOf Try.f72 25) [8, 12, 13, 14] [t54, t12, t13, t14] [] (fun  w => ∀ _ : Nat → Value,
                      Does Try.prog (binOp .add 3 t12 (Go.Value.int Go.IntKind.i64 1)) w fun t104 w =>
                      next5 t104 w
) w
) w
) w
                    ) (
                      Does Try.prog (Instr.alloc 123 true (.tuple #[])) w fun t15 w =>
                      Does Try.prog (Instr.sliceAt 123 t15 none none none) w fun t163 w =>
                      Does Try.prog (Builtin.copy_ #[118, 118] 3 #[t163, t26]) w fun t165 w =>
                      Rounds 1 (fun next6 t16 w => ∀ _ : Nat → Value,
                        Does Try.prog (binOp .lss 3 t16 (Go.Value.int Go.IntKind.i64 64)) w fun t167 w =>
                        CondP t167 (
                          DrawP Try.prog 305 (opsOf Try.f72 31) [15] [t15] [17] (fun t17 w => ∀ _ : Nat → Value,
                          Does Try.prog (Instr.indexAt 123 t15 (Go.Value.int Go.IntKind.i64 4)) w fun t181 w =>
                          Does Try.prog (Instr.loadAt 120 t181) w fun t182 w =>
                          Does Try.prog (Instr.indexAt 123 t15 (Go.Value.int Go.IntKind.i64 5)) w fun t183 w =>
                          Does Try.prog (Instr.loadAt 120 t183) w fun t184 w =>
                          Does Try.prog (binOp .and 120 t182 t184) w fun t185 w =>
                          Does Try.prog (Instr.indexAt 123 t15 (Go.Value.int Go.IntKind.i64 4)) w fun t186 w =>
                          Does Try.prog (Instr.loadAt 120 t186) w fun t187 w =>
                          Does Try.prog (Op.unary Go.UnOp.xor t187) w fun t188 w =>
                          Does Try.prog (Instr.indexAt 123 t15 (Go.Value.int Go.IntKind.i64 6)) w fun t189 w =>
                          Does Try.prog (Instr.loadAt 120 t189) w fun t190 w =>
                          Does Try.prog (binOp .and 120 t188 t190) w fun t191 w =>
                          Does Try.prog (binOp .xor 120 t185 t191) w fun t192 w =>
                          DrawP Try.prog 305 (opsOf Try.f72 33) [3, 8, 15, 16, 17, 18] [t25, t54, t15, t16, t17, t192] [19] (fun t19 w => ∀ _ : Nat → Value,
                          DrawP Try.prog 305 (opsOf Try.f72 34) [15] [t15] [20] (fun t20 w => ∀ _ : Nat → Value,
                          Does Try.prog (Instr.indexAt 123 t15 (Go.Value.int Go.IntKind.i64 0)) w fun t220 w =>
                          Does Try.prog (Instr.loadAt 120 t220) w fun t221 w =>
                          Does Try.prog (Instr.indexAt 123 t15 (Go.Value.int Go.IntKind.i64 1)) w fun t222 w =>
                          Does Try.prog (Instr.loadAt 120 t222) w fun t223 w =>
                          Does Try.prog (binOp .and 120 t221 t223) w fun t224 w =>
                          Does Try.prog (Instr.indexAt 123 t15 (Go.Value.int Go.IntKind.i64 0)) w fun t225 w =>
                          Does Try.prog (Instr.loadAt 120 t225) w fun t226 w =>
                          Does Try.prog (Instr.indexAt 123 t15 (Go.Value.int Go.IntKind.i64 2)) w fun t227 w =>
                          Does Try.prog (Instr.loadAt 120 t227) w fun t228 w =>
                          Does Try.prog (binOp .and 120 t226 t228) w fun t229 w =>
                          Does Try.prog (binOp .xor 120 t224 t229) w fun t230 w =>
                          Does Try.prog (Instr.indexAt 123 t15 (Go.Value.int Go.IntKind.i64 1)) w fun t231 w =>
                          Does Try.prog (Instr.loadAt 120 t231) w fun t232 w =>
                          Does Try.prog (Instr.indexAt 123 t15 (Go.Value.int Go.IntKind.i64 2)) w fun t233 w =>
                          Does Try.prog (Instr.loadAt 120 t233) w fun t234 w =>
                          Does Try.prog (binOp .and 120 t232 t234) w fun t235 w =>
                          Does Try.prog (binOp .xor 120 t230 t235) w fun t236 w =>
                          Does Try.prog (binOp .add 120 t19 t20) w fun t239 w =>
                          Does Try.prog (binOp .add 120 t239 t236) w fun t241 w =>
                          Does Try.prog (Instr.indexAt 123 t15 (Go.Value.int Go.IntKind.i64 0)) w fun t242 w =>
                          Does Try.prog (Instr.loadAt 120 t242) w fun t243 w =>
                          Does Try.prog (Instr.indexAt 123 t15 (Go.Value.int Go.IntKind.i64 1)) w fun t244 w =>
                          Does Try.prog (Instr.loadAt 120 t244) w fun t245 w =>
                          Does Try.prog (Instr.indexAt 123 t15 (Go.Value.int Go.IntKind.i64 2)) w fun t246 w =>
                          Does Try.prog (Instr.loadAt 120 t246) w fun t247 w =>
                          Does Try.prog (Instr.indexAt 123 t15 (Go.Value.int Go.IntKind.i64 3)) w fun t248 w =>
                          Does Try.prog (Instr.loadAt 120 t248) w fun t249 w =>
                          Does Try.prog (binOp .add 120 t249 t19) w fun t251 w =>
                          Does Try.prog (Instr.indexAt 123 t15 (Go.Value.int Go.IntKind.i64 4)) w fun t252 w =>
                          Does Try.prog (Instr.loadAt 120 t252) w fun t253 w =>
                          Does Try.prog (Instr.indexAt 123 t15 (Go.Value.int Go.IntKind.i64 5)) w fun t254 w =>
                          Does Try.prog (Instr.loadAt 120 t254) w fun t255 w =>
                          Does Try.prog (Instr.indexAt 123 t15 (Go.Value.int Go.IntKind.i64 6)) w fun t256 w =>
                          Does Try.prog (Instr.loadAt 120 t256) w fun t257 w =>
                          Does Try.prog (Instr.build 123 #[(0, t241), (1, t243), (2, t245), (3, t247), (4, t251), (5, t253), (6, t255), (7, t257)]) w fun t258 w =>
                          Does Try.prog (Instr.storeAt 123 t15 t258) w fun _ w =>
                          Does Try.prog (binOp .add 3 t16 (Go.Value.int Go.IntKind.i64 1)) w fun t169 w =>
                          next6 t169 w
) w
) w
) w
                        ) (
                          Rounds 1 (fun next7 t22 w => ∀ _ : Nat → Value,
                            Does Try.prog (binOp .lss 3 t22 (Go.Value.int Go.IntKind.i64 8)) w fun t260 w =>
                            CondP t260 (
                              DrawP Try.prog 305 (opsOf Try.f72 40) [4, 15, 22] [t26, t15, t22] [] (fun  w => ∀ _ : Nat → Value,
                              Does Try.prog (binOp .add 3 t22 (Go.Value.int Go.IntKind.i64 1)) w fun t262 w =>
                              next7 t262 w
) w
                            ) (
                              Does Try.prog (binOp .add 3 t9 (Go.Value.int Go.IntKind.i64 64)) w fun t60 w =>
                              next3 t60 w
                            )
                          ) (Go.Value.int Go.IntKind.i64 0) w
                        )
                      ) (Go.Value.int Go.IntKind.i64 0) w
                    )
                  ) (Go.Value.int Go.IntKind.i64 16) w
                )
              ) (Go.Value.int Go.IntKind.i64 0) w
            ) (
              Rounds 2 (fun next8 t23 t24 w => ∀ _ : Nat → Value,
                Does Try.prog (binOp .lss 3 t24 (Go.Value.int Go.IntKind.i64 8)) w fun t275 w =>
                CondP t275 (
                  DrawP Try.prog 305 (opsOf Try.f72 45) [4, 23, 24] [t26, t23, t24] [23] (fun t23 w => ∀ _ : Nat → Value,
                  Does Try.prog (binOp .add 3 t24 (Go.Value.int Go.IntKind.i64 1)) w fun t277 w =>
                  next8 t23 t277 w
) w
                ) (
                  R t23 w
                )
              ) (Go.Value.slice none 0 0) (Go.Value.int Go.IntKind.i64 0) w
            )
          ) (Go.Value.int Go.IntKind.i64 0) w
        )
      ) a5 (Go.Value.int Go.IntKind.i64 7) w
    )
  ) t30 w
theorem has72 : hasBody Try.prog 72 = true := by kernel_rfl
theorem vc72 {R : Value → World → Prop} {a0 : Value} {w : World} (h : V72 R a0 w) : Call Try.prog 72 #[a0] w R :=
  vc_of (args := [a0]) 305 ⟨lk [(4, [5]), (8, [5, 7]), (13, [9]), (16, [10]), (21, [12]), (29, [16]), (38, [22]), (43, [23, 24])], lkO [], lk [(19, [5, 8, 10, 11]), (23, [8, 12]), (24, [8, 12]), (25, [8, 12, 13, 14]), (31, [15]), (33, [3, 8, 15, 16, 17, 18]), (34, [15]), (40, [4, 15, 22]), (45, [4, 23, 24])], lk [(19, []), (23, [13]), (24, [14]), (25, []), (31, [17]), (33, [19]), (34, [20]), (40, []), (45, [23])]⟩ Try.func72 rfl Try.ntmps72 rfl has72 mixed (Eq.mp (by kernel_rfl) h)

/-- marline/obj.Decode -/
def V73 (R : Value → World → Prop) (a0 : Value) (w : World) : Prop :=
  Does Try.prog (Instr.alloc 72 true (.tuple #[])) w fun t2 w =>
  Does Try.prog (Builtin.len_ #[34] 3 #[a0]) w fun t8 w =>
  Does Try.prog (eqE .eql 3 (Go.Operand.tmp 8) (Go.Operand.const (Go.Value.int Go.IntKind.i64 0)) t8 (Go.Value.int Go.IntKind.i64 0)) w fun t9 w =>
  CondP t9 (
    Does Try.prog (Instr.build 72 #[]) w fun t10 w =>
    Does Try.prog (Instr.storeAt 72 t2 t10) w fun _ w =>
    SameP Try.prog (loadRes 72 t2) w fun r0 =>
    R (Value.tuple #[r0, (Go.Value.int Go.IntKind.i64 2)]) w
  ) (
    DrawP Try.prog 33 (opsOf Try.f73 3) [0] [a0] [4] (fun o4 w => ∀ _ : Nat → Value,
    Does Try.prog (Instr.loadAt 72 o4) w fun t19 w =>
    Call Try.prog 43 #[t19] w fun t20 w =>
    Does Try.prog (Instr.extract t20 0) w fun t21 w =>
    Does Try.prog (Instr.extract t20 1) w fun t22 w =>
    Does Try.prog (eqE .neq 29 (Go.Operand.tmp 23) (Go.Operand.const (Go.Value.int Go.IntKind.i64 0)) t22 (Go.Value.int Go.IntKind.i64 0)) w fun t24 w =>
    JoinP 1 (fun j1 => GuardP t24 false (
      Call Try.prog 95 #[t21, a0] w fun t28 w =>
      Does Try.prog (Op.unary Go.UnOp.not t28) w fun t29 w =>
      j1 t29 w
    ) (j1 undef w))
    (fun t29 w => ∀ _ : Nat → Value,
    PickP t24 (Go.Value.bool true) t29 fun t30 =>
    CondP t30 (
      Does Try.prog (Instr.build 72 #[]) w fun t31 w =>
      Does Try.prog (Instr.storeAt 72 t2 t31) w fun _ w =>
      SameP Try.prog (loadRes 72 t2) w fun r0 =>
      R (Value.tuple #[r0, (Go.Value.int Go.IntKind.i64 4)]) w
    ) (
      Does Try.prog (Instr.loadAt 72 o4) w fun t32 w =>
      Does Try.prog (Instr.storeAt 72 t2 t32) w fun _ w =>
      SameP Try.prog (loadRes 72 t2) w fun r0 =>
      R (Value.tuple #[r0, (Go.Value.int Go.IntKind.i64 0)]) w
    )
    )
) w
  )
theorem has73 : hasBody Try.prog 73 = true := by kernel_rfl
theorem vc73 {R : Value → World → Prop} {a0 : Value} {w : World} (h : V73 R a0 w) : Call Try.prog 73 #[a0] w R :=
  vc_of (args := [a0]) 33 ⟨lk [], lkO [], lk [(3, [0])], lk [(3, [4])]⟩ Try.func73 rfl Try.ntmps73 rfl has73 mixed (Eq.mp (by kernel_rfl) h)

/-- marline/wire.merge -/
def V74 (R : Value → World → Prop) (a0 a1 : Value) (w : World) : Prop :=
  Does Try.prog (Builtin.len_ #[23] 3 #[a0]) w fun t7 w =>
  Does Try.prog (Builtin.len_ #[23] 3 #[a1]) w fun t9 w =>
  Does Try.prog (binOp .add 3 t7 t9) w fun t10 w =>
  Does Try.prog (Instr.makeSlice 23 (Go.Value.int Go.IntKind.i64 0) t10) w fun t11 w =>
  Rounds 3 (fun next1 a0 b1 out5 w => ∀ _ : Nat → Value,
    Does Try.prog (Builtin.len_ #[23] 3 #[a0]) w fun t13 w =>
    Does Try.prog (binOp .gtr 3 t13 (Go.Value.int Go.IntKind.i64 0)) w fun t14 w =>
    JoinP 1 (fun j2 => GuardP t14 true (
      Does Try.prog (Builtin.len_ #[23] 3 #[b1]) w fun t17 w =>
      Does Try.prog (binOp .gtr 3 t17 (Go.Value.int Go.IntKind.i64 0)) w fun t18 w =>
      j2 t18 w
    ) (j2 undef w))
    (fun t18 w => ∀ _ : Nat → Value,
    PickP t14 t18 (Go.Value.bool false) fun t19 =>
    CondP t19 (
      JoinP 2 (fun j3 =>
        DrawP Try.prog 43 (opsOf Try.f74 3) [0, 1] [a0, b1] [27] (fun t27 w => ∀ _ : Nat → Value,
        CondP t27 (
          j3 b1 a0 w
        ) (
          j3 a0 b1 w
        )
) w
      ) (fun a0 b1 w => ∀ _ : Nat → Value,
      Does Try.prog (Instr.indexAt 23 a0 (Go.Value.int Go.IntKind.i64 0)) w fun t32 w =>
      Does Try.prog (Instr.loadAt 9 t32) w fun t33 w =>
      Does Try.prog (Instr.buildSlice 23 1 #[(0, t33)]) w fun t34 w =>
      Does Try.prog (Builtin.append_ #[23, 23] 23 #[out5, t34]) w fun t35 w =>
      Does Try.prog (Instr.sliceAt 23 a0 (some (Go.Value.int Go.IntKind.i64 1)) none none) w fun t37 w =>
      next1 t37 b1 t35 w
      )
    ) (
      Does Try.prog (Builtin.append_ #[23, 23] 23 #[out5, a0]) w fun t40 w =>
      Does Try.prog (Builtin.append_ #[23, 23] 23 #[t40, b1]) w fun t42 w =>
      R t42 w
    )
    )
  ) a0 a1 t11 w
theorem has74 : hasBody Try.prog 74 = true := by kernel_rfl
theorem vc74 {R : Value → World → Prop} {a0 a1 : Value} {w : World} (h : V74 R a0 a1 w) : Call Try.prog 74 #[a0, a1] w R :=
  vc_of (args := [a0, a1]) 43 ⟨lk [(2, [0, 1, 5])], lkO [(5, [0, 1])], lk [(3, [0, 1])], lk [(3, [27])]⟩ Try.func74 rfl Try.ntmps74 rfl has74 mixed (Eq.mp (by kernel_rfl) h)

/-- marline/marref1.Get -/
def V75 (R : Value → World → Prop) (a0 a1 : Value) (w : World) : Prop :=
  Does Try.prog (binOp .lss 3 a1 (Go.Value.int Go.IntKind.i64 0)) w fun t13 w =>
  JoinP 1 (fun j1 => GuardP t13 false (
    Does Try.prog (Builtin.len_ #[34] 3 #[a0]) w fun t17 w =>
    Does Try.prog (binOp .gtr 3 a1 t17) w fun t18 w =>
    j1 t18 w
  ) (j1 undef w))
  (fun t18 w => ∀ _ : Nat → Value,
  PickP t13 (Go.Value.bool true) t18 fun t19 =>
  CondP t19 (
    R (Value.tuple #[(Go.Value.int Go.IntKind.i64 0), (Go.Value.int Go.IntKind.i64 0), (Go.Value.int Go.IntKind.i64 1)]) w
  ) (
    Rounds 1 (fun next2 t7 w => ∀ _ : Nat → Value,
      Does Try.prog (Builtin.len_ #[34] 3 #[a0]) w fun t23 w =>
      Does Try.prog (binOp .lss 3 t7 t23) w fun t24 w =>
      JoinP 1 (fun j3 => GuardP t24 true (
        Does Try.prog (Instr.indexAt 34 a0 t7) w fun t28 w =>
        Does Try.prog (Instr.loadAt 5 t28) w fun t29 w =>
        Does Try.prog (binOp .gtr 5 t29 (Go.Value.int Go.IntKind.u8 127)) w fun t30 w =>
        j3 t30 w
      ) (j3 undef w))
      (fun t30 w => ∀ _ : Nat → Value,
      PickP t24 t30 (Go.Value.bool false) fun t31 =>
      CondP t31 (
        Does Try.prog (binOp .add 3 t7 (Go.Value.int Go.IntKind.i64 1)) w fun t33 w =>
        next2 t33 w
      ) (
        Does Try.prog (Builtin.len_ #[34] 3 #[a0]) w fun t36 w =>
        Does Try.prog (eqE .eql 3 (Go.Operand.tmp 34) (Go.Operand.tmp 36) t7 t36) w fun t37 w =>
        CondP t37 (
          R (Value.tuple #[(Go.Value.int Go.IntKind.i64 0), (Go.Value.int Go.IntKind.i64 0), (Go.Value.int Go.IntKind.i64 2)]) w
        ) (
          Does Try.prog (binOp .sub 3 t7 a1) w fun t40 w =>
          Does Try.prog (binOp .gtr 3 t40 (Go.Value.int Go.IntKind.i64 8)) w fun t41 w =>
          CondP t41 (
            R (Value.tuple #[(Go.Value.int Go.IntKind.i64 0), (Go.Value.int Go.IntKind.i64 0), (Go.Value.int Go.IntKind.i64 4)]) w
          ) (
            Rounds 2 (fun next4 t8 t9 w => ∀ _ : Nat → Value,
              Does Try.prog (binOp .geq 3 t9 a1) w fun t45 w =>
              CondP t45 (
                Does Try.prog (binOp .shl 3 t8 (Go.Value.int Go.IntKind.u64 7)) w fun t49 w =>
                Does Try.prog (Instr.indexAt 34 a0 t9) w fun t52 w =>
                Does Try.prog (Instr.loadAt 5 t52) w fun t53 w =>
                Does Try.prog (binOp .and 5 t53 (Go.Value.int Go.IntKind.u8 127)) w fun t54 w =>
                Does Try.prog (convert 5 3 t54) w fun t55 w =>
                Does Try.prog (binOp .or 3 t49 t55) w fun t56 w =>
                Does Try.prog (binOp .sub 3 t9 (Go.Value.int Go.IntKind.i64 1)) w fun t47 w =>
                next4 t56 t47 w
              ) (
                Call Try.prog 97 #[t8] w fun t59 w =>
                Does Try.prog (Instr.extract t59 0) w fun t60 w =>
                Does Try.prog (Instr.extract t59 1) w fun t61 w =>
                Does Try.prog (eqE .neq 29 (Go.Operand.tmp 62) (Go.Operand.const (Go.Value.int Go.IntKind.i64 0)) t61 (Go.Value.int Go.IntKind.i64 0)) w fun t63 w =>
                JoinP 1 (fun j5 => GuardP t63 false (
                  Does Try.prog (binOp .add 3 t7 (Go.Value.int Go.IntKind.i64 1)) w fun t69 w =>
                  Does Try.prog (Instr.sliceAt 34 a0 (some a1) (some t69) none) w fun t70 w =>
                  Call Try.prog 57 #[t60, t70] w fun t71 w =>
                  Does Try.prog (Op.unary Go.UnOp.not t71) w fun t72 w =>
                  j5 t72 w
                ) (j5 undef w))
                (fun t72 w => ∀ _ : Nat → Value,
                PickP t63 (Go.Value.bool true) t72 fun t73 =>
                CondP t73 (
                  R (Value.tuple #[(Go.Value.int Go.IntKind.i64 0), (Go.Value.int Go.IntKind.i64 0), (Go.Value.int Go.IntKind.i64 4)]) w
                ) (
                  Does Try.prog (binOp .add 3 t7 (Go.Value.int Go.IntKind.i64 1)) w fun t76 w =>
                  R (Value.tuple #[t8, t76, (Go.Value.int Go.IntKind.i64 0)]) w
                )
                )
              )
            ) (Go.Value.int Go.IntKind.i64 0) t7 w
          )
        )
      )
      )
    ) a1 w
  )
  )
theorem has75 : hasBody Try.prog 75 = true := by kernel_rfl
theorem vc75 {R : Value → World → Prop} {a0 a1 : Value} {w : World} (h : V75 R a0 a1 w) : Call Try.prog 75 #[a0, a1] w R :=
  vc_of (args := [a0, a1]) 77 ⟨lk [(4, [7]), (12, [8, 9])], lkO [], lk [], lk []⟩ Try.func75 rfl Try.ntmps75 rfl has75 mixed (Eq.mp (by kernel_rfl) h)

/-- (marline/marref6.Obj).May -/
def V76 (R : Value → World → Prop) (a0 : Value) (w : World) : Prop :=
  Does Try.prog (Instr.box 38 a0) w fun o1 w =>
  Does Try.prog (Instr.fieldAt 38 o1 3) w fun r4 w =>
  Does Try.prog (Instr.loadAt 9 r4) w fun a5 w =>
  Does Try.prog (eqE .neq 9 (Go.Operand.tmp 5) (Go.Operand.const (Go.Value.string { data := #[] })) a5 (Go.Value.string { data := #[] })) w fun y6 w =>
  JoinP 1 (fun j1 => GuardP y6 false (
    Does Try.prog (Instr.fieldAt 38 o1 4) w fun t8 w =>
    Does Try.prog (Instr.loadAt 23 t8) w fun t9 w =>
    Does Try.prog (Builtin.len_ #[23] 3 #[t9]) w fun t10 w =>
    Does Try.prog (binOp .gtr 3 t10 (Go.Value.int Go.IntKind.i64 0)) w fun t11 w =>
    j1 t11 w
  ) (j1 undef w))
  (fun t11 w => ∀ _ : Nat → Value,
  PickP y6 (Go.Value.bool true) t11 fun t12 =>
  JoinP 1 (fun j2 => GuardP t12 false (
    Does Try.prog (Instr.fieldAt 38 o1 5) w fun t14 w =>
    Does Try.prog (Instr.loadAt 3 t14) w fun t15 w =>
    Does Try.prog (eqE .neq 3 (Go.Operand.tmp 15) (Go.Operand.const (Go.Value.int Go.IntKind.i64 0)) t15 (Go.Value.int Go.IntKind.i64 0)) w fun t16 w =>
    j2 t16 w
  ) (j2 undef w))
  (fun t16 w => ∀ _ : Nat → Value,
  PickP t12 (Go.Value.bool true) t16 fun t17 =>
  JoinP 1 (fun j3 => GuardP t17 false (
    Does Try.prog (Instr.fieldAt 38 o1 6) w fun t19 w =>
    Does Try.prog (Instr.loadAt 3 t19) w fun t20 w =>
    Does Try.prog (eqE .neq 3 (Go.Operand.tmp 20) (Go.Operand.const (Go.Value.int Go.IntKind.i64 0)) t20 (Go.Value.int Go.IntKind.i64 0)) w fun t21 w =>
    j3 t21 w
  ) (j3 undef w))
  (fun t21 w => ∀ _ : Nat → Value,
  PickP t17 (Go.Value.bool true) t21 fun t22 =>
  JoinP 1 (fun j4 => GuardP t22 false (
    Does Try.prog (Instr.fieldAt 38 o1 7) w fun t24 w =>
    Does Try.prog (Instr.loadAt 9 t24) w fun t25 w =>
    Does Try.prog (eqE .neq 9 (Go.Operand.tmp 25) (Go.Operand.const (Go.Value.string { data := #[] })) t25 (Go.Value.string { data := #[] })) w fun t26 w =>
    j4 t26 w
  ) (j4 undef w))
  (fun t26 w => ∀ _ : Nat → Value,
  PickP t22 (Go.Value.bool true) t26 fun t27 =>
  Does Try.prog (Instr.fieldAt 38 o1 0) w fun t28 w =>
  Does Try.prog (Instr.loadAt 3 t28) w fun t29 w =>
  Does Try.prog (eqE .eql 3 (Go.Operand.tmp 29) (Go.Operand.const (Go.Value.int Go.IntKind.i64 1)) t29 (Go.Value.int Go.IntKind.i64 1)) w fun t31 w =>
  CondP t31 (
    Does Try.prog (Instr.fieldAt 38 o1 1) w fun t32 w =>
    Does Try.prog (Instr.loadAt 34 t32) w fun t33 w =>
    Does Try.prog (Builtin.len_ #[34] 3 #[t33]) w fun t34 w =>
    Does Try.prog (binOp .leq 3 t34 (Go.Value.int Go.IntKind.i64 20000)) w fun t35 w =>
    JoinP 1 (fun j5 => GuardP t35 true (
      Does Try.prog (Instr.fieldAt 38 o1 2) w fun t37 w =>
      Does Try.prog (Instr.loadAt 36 t37) w fun t38 w =>
      Does Try.prog (Builtin.len_ #[36] 3 #[t38]) w fun t39 w =>
      Does Try.prog (eqE .eql 3 (Go.Operand.tmp 39) (Go.Operand.const (Go.Value.int Go.IntKind.i64 0)) t39 (Go.Value.int Go.IntKind.i64 0)) w fun t40 w =>
      j5 t40 w
    ) (j5 undef w))
    (fun t40 w => ∀ _ : Nat → Value,
    PickP t35 t40 (Go.Value.bool false) fun t41 =>
    JoinP 1 (fun j6 => GuardP t41 true (
      Does Try.prog (Op.unary Go.UnOp.not t27) w fun t44 w =>
      j6 t44 w
    ) (j6 undef w))
    (fun t44 w => ∀ _ : Nat → Value,
    PickP t41 t44 (Go.Value.bool false) fun t45 =>
    R t45 w
    )
    )
  ) (
    Does Try.prog (eqE .eql 3 (Go.Operand.tmp 29) (Go.Operand.const (Go.Value.int Go.IntKind.i64 2)) t29 (Go.Value.int Go.IntKind.i64 2)) w fun t47 w =>
    CondP t47 (
      Does Try.prog (Instr.fieldAt 38 o1 1) w fun t48 w =>
      Does Try.prog (Instr.loadAt 34 t48) w fun t49 w =>
      Does Try.prog (Builtin.len_ #[34] 3 #[t49]) w fun t50 w =>
      Does Try.prog (eqE .eql 3 (Go.Operand.tmp 50) (Go.Operand.const (Go.Value.int Go.IntKind.i64 0)) t50 (Go.Value.int Go.IntKind.i64 0)) w fun t51 w =>
      JoinP 1 (fun j7 => GuardP t51 true (
        Does Try.prog (Instr.fieldAt 38 o1 2) w fun t53 w =>
        Does Try.prog (Instr.loadAt 36 t53) w fun t54 w =>
        Call Try.prog 98 #[t54] w fun t55 w =>
        j7 t55 w
      ) (j7 undef w))
      (fun t55 w => ∀ _ : Nat → Value,
      PickP t51 t55 (Go.Value.bool false) fun t56 =>
      JoinP 1 (fun j8 => GuardP t56 true (
        Does Try.prog (Op.unary Go.UnOp.not t27) w fun t59 w =>
        j8 t59 w
      ) (j8 undef w))
      (fun t59 w => ∀ _ : Nat → Value,
      PickP t56 t59 (Go.Value.bool false) fun t60 =>
      R t60 w
      )
      )
    ) (
      Does Try.prog (eqE .eql 3 (Go.Operand.tmp 29) (Go.Operand.const (Go.Value.int Go.IntKind.i64 3)) t29 (Go.Value.int Go.IntKind.i64 3)) w fun t62 w =>
      CondP t62 (
        Does Try.prog (Instr.fieldAt 38 o1 1) w fun t63 w =>
        Does Try.prog (Instr.loadAt 34 t63) w fun t64 w =>
        Does Try.prog (Builtin.len_ #[34] 3 #[t64]) w fun t65 w =>
        Does Try.prog (Instr.fieldAt 38 o1 2) w fun t66 w =>
        Does Try.prog (Instr.loadAt 36 t66) w fun t67 w =>
        Does Try.prog (Builtin.len_ #[36] 3 #[t67]) w fun t68 w =>
        Does Try.prog (binOp .add 3 t65 t68) w fun t69 w =>
        Does Try.prog (eqE .eql 3 (Go.Operand.tmp 69) (Go.Operand.const (Go.Value.int Go.IntKind.i64 0)) t69 (Go.Value.int Go.IntKind.i64 0)) w fun t70 w =>
        JoinP 1 (fun j9 => GuardP t70 true (
          Does Try.prog (Instr.fieldAt 38 o1 3) w fun t72 w =>
          Does Try.prog (Instr.loadAt 9 t72) w fun t73 w =>
          Call Try.prog 99 #[t73] w fun t74 w =>
          j9 t74 w
        ) (j9 undef w))
        (fun t74 w => ∀ _ : Nat → Value,
        PickP t70 t74 (Go.Value.bool false) fun t75 =>
        JoinP 1 (fun j10 => GuardP t75 true (
          Does Try.prog (Instr.fieldAt 38 o1 4) w fun t77 w =>
          Does Try.prog (Instr.loadAt 23 t77) w fun t78 w =>
          Does Try.prog (Builtin.len_ #[23] 3 #[t78]) w fun t79 w =>
          Does Try.prog (binOp .leq 3 t79 (Go.Value.int Go.IntKind.i64 2)) w fun t80 w =>
          j10 t80 w
        ) (j10 undef w))
        (fun t80 w => ∀ _ : Nat → Value,
        PickP t75 t80 (Go.Value.bool false) fun t81 =>
        JoinP 1 (fun j11 => GuardP t81 true (
          Does Try.prog (Instr.fieldAt 38 o1 4) w fun t83 w =>
          Does Try.prog (Instr.loadAt 23 t83) w fun t84 w =>
          Call Try.prog 100 #[t84] w fun t85 w =>
          j11 t85 w
        ) (j11 undef w))
        (fun t85 w => ∀ _ : Nat → Value,
        PickP t81 t85 (Go.Value.bool false) fun t86 =>
        JoinP 1 (fun j12 => GuardP t86 true (
          Does Try.prog (Instr.fieldAt 38 o1 4) w fun t88 w =>
          Does Try.prog (Instr.loadAt 23 t88) w fun t89 w =>
          Call Try.prog 12 #[t89] w fun t90 w =>
          j12 t90 w
        ) (j12 undef w))
        (fun t90 w => ∀ _ : Nat → Value,
        PickP t86 t90 (Go.Value.bool false) fun t91 =>
        JoinP 1 (fun j13 => GuardP t91 true (
          Does Try.prog (Instr.fieldAt 38 o1 5) w fun t93 w =>
          Does Try.prog (Instr.loadAt 3 t93) w fun t94 w =>
          Does Try.prog (binOp .geq 3 t94 (Go.Value.int Go.IntKind.i64 0)) w fun t95 w =>
          j13 t95 w
        ) (j13 undef w))
        (fun t95 w => ∀ _ : Nat → Value,
        PickP t91 t95 (Go.Value.bool false) fun t96 =>
        JoinP 1 (fun j14 => GuardP t96 true (
          Does Try.prog (Instr.fieldAt 38 o1 5) w fun t98 w =>
          Does Try.prog (Instr.loadAt 3 t98) w fun t99 w =>
          Does Try.prog (binOp .leq 3 t99 (Go.Value.int Go.IntKind.i64 1099511627776)) w fun t100 w =>
          j14 t100 w
        ) (j14 undef w))
        (fun t100 w => ∀ _ : Nat → Value,
        PickP t96 t100 (Go.Value.bool false) fun t101 =>
        JoinP 1 (fun j15 => GuardP t101 true (
          Does Try.prog (Instr.fieldAt 38 o1 6) w fun t103 w =>
          Does Try.prog (Instr.loadAt 3 t103) w fun t104 w =>
          Does Try.prog (binOp .geq 3 t104 (Go.Value.int Go.IntKind.i64 0)) w fun t105 w =>
          j15 t105 w
        ) (j15 undef w))
        (fun t105 w => ∀ _ : Nat → Value,
        PickP t101 t105 (Go.Value.bool false) fun t106 =>
        JoinP 1 (fun j16 => GuardP t106 true (
          Does Try.prog (Instr.fieldAt 38 o1 6) w fun t108 w =>
          Does Try.prog (Instr.loadAt 3 t108) w fun t109 w =>
          Does Try.prog (binOp .leq 3 t109 (Go.Value.int Go.IntKind.i64 255)) w fun t110 w =>
          j16 t110 w
        ) (j16 undef w))
        (fun t110 w => ∀ _ : Nat → Value,
        PickP t106 t110 (Go.Value.bool false) fun t111 =>
        JoinP 1 (fun j17 => GuardP t111 true (
          Does Try.prog (Instr.fieldAt 38 o1 7) w fun t113 w =>
          Does Try.prog (Instr.loadAt 9 t113) w fun t114 w =>
          Call Try.prog 101 #[t114] w fun t115 w =>
          j17 t115 w
        ) (j17 undef w))
        (fun t115 w => ∀ _ : Nat → Value,
        PickP t111 t115 (Go.Value.bool false) fun t116 =>
        R t116 w
        )
        )
        )
        )
        )
        )
        )
        )
        )
      ) (
        R (Go.Value.bool false) w
      )
    )
  )
  )
  )
  )
  )
theorem has76 : hasBody Try.prog 76 = true := by kernel_rfl
theorem vc76 {R : Value → World → Prop} {a0 : Value} {w : World} (h : V76 R a0 w) : Call Try.prog 76 #[a0] w R :=
  vc_of (args := [a0]) 117 ⟨lk [], lkO [], lk [], lk []⟩ Try.func76 rfl Try.ntmps76 rfl has76 mixed (Eq.mp (by kernel_rfl) h)

/-- marline/marref6.num -/
def V77 (R : Value → World → Prop) (a0 : Value) (w : World) : Prop :=
  Call Try.prog 97 #[a0] w fun t7 w =>
  Does Try.prog (Instr.extract t7 0) w fun t8 w =>
  Does Try.prog (Instr.extract t7 1) w fun t9 w =>
  R t8 w
theorem has77 : hasBody Try.prog 77 = true := by kernel_rfl
theorem vc77 {R : Value → World → Prop} {a0 : Value} {w : World} (h : V77 R a0 w) : Call Try.prog 77 #[a0] w R :=
  vc_of (args := [a0]) 11 ⟨lk [], lkO [], lk [], lk []⟩ Try.func77 rfl Try.ntmps77 rfl has77 mixed (Eq.mp (by kernel_rfl) h)

/-- marline/marref6.raw -/
def V78 (R : Value → World → Prop) (a0 : Value) (w : World) : Prop :=
  Call Try.prog 102 #[a0] w fun t7 w =>
  Does Try.prog (Instr.extract t7 0) w fun t8 w =>
  Does Try.prog (Instr.extract t7 1) w fun t9 w =>
  R t8 w
theorem has78 : hasBody Try.prog 78 = true := by kernel_rfl
theorem vc78 {R : Value → World → Prop} {a0 : Value} {w : World} (h : V78 R a0 w) : Call Try.prog 78 #[a0] w R :=
  vc_of (args := [a0]) 11 ⟨lk [], lkO [], lk [], lk []⟩ Try.func78 rfl Try.ntmps78 rfl has78 mixed (Eq.mp (by kernel_rfl) h)

/-- slices.Compact[[]string,string] -/
def V79 (R : Value → World → Prop) (a0 : Value) (w : World) : Prop :=
  Does Try.prog (Builtin.len_ #[23] 3 #[a0]) w fun t7 w =>
  Does Try.prog (binOp .lss 3 t7 (Go.Value.int Go.IntKind.i64 2)) w fun t8 w =>
  CondP t8 (
    R a0 w
  ) (
    Rounds 1 (fun next1 k3 w => ∀ _ : Nat → Value,
      Does Try.prog (Builtin.len_ #[23] 3 #[a0]) w fun t12 w =>
      Does Try.prog (binOp .lss 3 k3 t12) w fun t13 w =>
      CondP t13 (
        DrawP Try.prog 61 (opsOf Try.f79 6) [0, 3] [a0, k3] [25] (fun t25 w => ∀ _ : Nat → Value,
        CondP t25 (
          Does Try.prog (Instr.sliceAt 23 a0 (some k3) none none) w fun t28 w =>
          Rounds 2 (fun next2 k3 k25 w => ∀ _ : Nat → Value,
            Does Try.prog (Builtin.len_ #[23] 3 #[t28]) w fun t31 w =>
            Does Try.prog (binOp .lss 3 k25 t31) w fun t32 w =>
            CondP t32 (
              DrawP Try.prog 61 (opsOf Try.f79 11) [4, 5] [t28, k25] [44] (fun t44 w => ∀ _ : Nat → Value,
              CondP t44 (
                Does Try.prog (Instr.indexAt 23 t28 k25) w fun t49 w =>
                Does Try.prog (Instr.loadAt 9 t49) w fun t50 w =>
                Does Try.prog (Instr.indexAt 23 a0 k3) w fun t51 w =>
                Does Try.prog (Instr.storeAt 9 t51 t50) w fun _ w =>
                Does Try.prog (binOp .add 3 k3 (Go.Value.int Go.IntKind.i64 1)) w fun t53 w =>
                Does Try.prog (binOp .add 3 k25 (Go.Value.int Go.IntKind.i64 1)) w fun t34 w =>
                next2 t53 t34 w
              ) (
                Does Try.prog (binOp .add 3 k25 (Go.Value.int Go.IntKind.i64 1)) w fun t34 w =>
                next2 k3 t34 w
              )
) w
            ) (
              Does Try.prog (Instr.sliceAt 23 a0 (some k3) none none) w fun t56 w =>
              Does Try.prog (Builtin.clear_ #[23] 0 #[t56]) w fun _ w =>
              Does Try.prog (Instr.sliceAt 23 a0 none (some k3) none) w fun t59 w =>
              R t59 w
            )
          ) k3 (Go.Value.int Go.IntKind.i64 1) w
        ) (
          Does Try.prog (binOp .add 3 k3 (Go.Value.int Go.IntKind.i64 1)) w fun t15 w =>
          next1 t15 w
        )
) w
      ) (
        R a0 w
      )
    ) (Go.Value.int Go.IntKind.i64 1) w
  )
theorem has79 : hasBody Try.prog 79 = true := by kernel_rfl
theorem vc79 {R : Value → World → Prop} {a0 : Value} {w : World} (h : V79 R a0 w) : Call Try.prog 79 #[a0] w R :=
  vc_of (args := [a0]) 61 ⟨lk [(4, [3]), (9, [3, 5])], lkO [], lk [(6, [0, 3]), (11, [4, 5])], lk [(6, [25]), (11, [44])]⟩ Try.func79 rfl Try.ntmps79 rfl has79 mixed (Eq.mp (by kernel_rfl) h)

/-- (*marline/dag.Graph).nearest$1 -/
def V80 (R : Value → World → Prop) (a0 a1 : Value) (w : World) : Prop :=
  Does Try.prog (Instr.loadAt 77 a1) w fun t7 w =>
  Does Try.prog (Instr.lookup 77 t7 a0 true) w fun t9 w =>
  Does Try.prog (Instr.extract t9 0) w fun t10 w =>
  Does Try.prog (Instr.extract t9 1) w fun t11 w =>
  R t11 w
theorem has80 : hasBody Try.prog 80 = true := by kernel_rfl
theorem vc80 {R : Value → World → Prop} {a0 a1 : Value} {w : World} (h : V80 R a0 a1 w) : Call Try.prog 80 #[a0, a1] w R :=
  vc_of (args := [a0, a1]) 13 ⟨lk [], lkO [], lk [], lk []⟩ Try.func80 rfl Try.ntmps80 rfl has80 mixed (Eq.mp (by kernel_rfl) h)

/-- slices.stableCmpFunc[string] -/
def V81 (R : Value → World → Prop) (a0 a1 a2 : Value) (w : World) : Prop :=
  Rounds 2 (fun next1 a7 b8 w => ∀ _ : Nat → Value,
    Does Try.prog (binOp .leq 3 b8 a1) w fun t13 w =>
    CondP t13 (
      Call Try.prog 103 #[a0, a7, b8, a2] w fun t18 w =>
      Does Try.prog (binOp .add 3 b8 (Go.Value.int Go.IntKind.i64 20)) w fun t22 w =>
      next1 b8 t22 w
    ) (
      Call Try.prog 103 #[a0, a7, a1, a2] w fun t27 w =>
      Rounds 1 (fun next2 blockSize6 w => ∀ _ : Nat → Value,
        Does Try.prog (binOp .lss 3 blockSize6 a1) w fun t30 w =>
        CondP t30 (
          Does Try.prog (binOp .mul 3 (Go.Value.int Go.IntKind.i64 2) blockSize6) w fun t32 w =>
          Rounds 2 (fun next3 a7 b8 w => ∀ _ : Nat → Value,
            Does Try.prog (binOp .leq 3 b8 a1) w fun t35 w =>
            CondP t35 (
              Does Try.prog (binOp .add 3 a7 blockSize6) w fun t40 w =>
              Call Try.prog 104 #[a0, a7, t40, b8, a2] w fun t43 w =>
              Does Try.prog (binOp .mul 3 (Go.Value.int Go.IntKind.i64 2) blockSize6) w fun t47 w =>
              Does Try.prog (binOp .add 3 b8 t47) w fun t48 w =>
              next3 b8 t48 w
            ) (
              Does Try.prog (binOp .add 3 a7 blockSize6) w fun t51 w =>
              Does Try.prog (binOp .lss 3 t51 a1) w fun t54 w =>
              CondP t54 (
                Call Try.prog 104 #[a0, a7, t51, a1, a2] w fun t60 w =>
                Does Try.prog (binOp .mul 3 blockSize6 (Go.Value.int Go.IntKind.i64 2)) w fun t62 w =>
                next2 t62 w
              ) (
                Does Try.prog (binOp .mul 3 blockSize6 (Go.Value.int Go.IntKind.i64 2)) w fun t62 w =>
                next2 t62 w
              )
            )
          ) (Go.Value.int Go.IntKind.i64 0) t32 w
        ) (
          R (Value.tuple #[]) w
        )
      ) (Go.Value.int Go.IntKind.i64 20) w
    )
  ) (Go.Value.int Go.IntKind.i64 0) (Go.Value.int Go.IntKind.i64 20) w
theorem has81 : hasBody Try.prog 81 = true := by kernel_rfl
theorem vc81 {R : Value → World → Prop} {a0 a1 a2 : Value} {w : World} (h : V81 R a0 a1 a2 w) : Call Try.prog 81 #[a0, a1, a2] w R :=
  vc_of (args := [a0, a1, a2]) 63 ⟨lk [(2, [7, 8]), (7, [6]), (9, [7, 8])], lkO [], lk [], lk []⟩ Try.func81 rfl Try.ntmps81 rfl has81 mixed (Eq.mp (by kernel_rfl) h)

/-- slices.IndexFunc[[]string,string] -/
def V82 (R : Value → World → Prop) (a0 a1 : Value) (w : World) : Prop :=
  Does Try.prog (Builtin.len_ #[23] 3 #[a0]) w fun t7 w =>
  Rounds 1 (fun next1 t8 w => ∀ _ : Nat → Value,
    Does Try.prog (binOp .lss 3 t8 t7) w fun t9 w =>
    CondP t9 (
      Does Try.prog (Instr.indexAt 23 a0 t8) w fun t14 w =>
      Does Try.prog (Instr.loadAt 9 t14) w fun t15 w =>
      CallV Try.prog a1 #[t15] w fun t16 w =>
      CondP t16 (
        R t8 w
      ) (
        Does Try.prog (binOp .add 3 t8 (Go.Value.int Go.IntKind.i64 1)) w fun t18 w =>
        next1 t18 w
      )
    ) (
      R (Go.Value.int Go.IntKind.i64 (-1)) w
    )
  ) (Go.Value.int Go.IntKind.i64 0) w
theorem has82 : hasBody Try.prog 82 = true := by kernel_rfl
theorem vc82 {R : Value → World → Prop} {a0 a1 : Value} {w : World} (h : V82 R a0 a1 w) : Call Try.prog 82 #[a0, a1] w R :=
  vc_of (args := [a0, a1]) 19 ⟨lk [(2, [8])], lkO [], lk [], lk []⟩ Try.func82 rfl Try.ntmps82 rfl has82 mixed (Eq.mp (by kernel_rfl) h)

/-- cmp.Less[string] -/
def V83 (R : Value → World → Prop) (a0 a1 : Value) (w : World) : Prop :=
  Call Try.prog 105 #[a0] w fun t6 w =>
  JoinP 1 (fun j1 => GuardP t6 true (
    Call Try.prog 105 #[a1] w fun t9 w =>
    Does Try.prog (Op.unary Go.UnOp.not t9) w fun t10 w =>
    j1 t10 w
  ) (j1 undef w))
  (fun t10 w => ∀ _ : Nat → Value,
  PickP t6 t10 (Go.Value.bool false) fun t11 =>
  JoinP 1 (fun j2 => GuardP t11 false (
    Does Try.prog (binOp .lss 9 a0 a1) w fun t15 w =>
    j2 t15 w
  ) (j2 undef w))
  (fun t15 w => ∀ _ : Nat → Value,
  PickP t11 (Go.Value.bool true) t15 fun t16 =>
  R t16 w
  )
  )
theorem has83 : hasBody Try.prog 83 = true := by kernel_rfl
theorem vc83 {R : Value → World → Prop} {a0 a1 : Value} {w : World} (h : V83 R a0 a1 w) : Call Try.prog 83 #[a0, a1] w R :=
  vc_of (args := [a0, a1]) 17 ⟨lk [], lkO [], lk [], lk []⟩ Try.func83 rfl Try.ntmps83 rfl has83 mixed (Eq.mp (by kernel_rfl) h)

/-- slices.isNaN[string] -/
def V84 (R : Value → World → Prop) (a0 : Value) (w : World) : Prop :=
  Does Try.prog (eqE .neq 9 (Go.Operand.tmp 3) (Go.Operand.tmp 4) a0 a0) w fun t5 w =>
  R t5 w
theorem has84 : hasBody Try.prog 84 = true := by kernel_rfl
theorem vc84 {R : Value → World → Prop} {a0 : Value} {w : World} (h : V84 R a0 w) : Call Try.prog 84 #[a0] w R :=
  vc_of (args := [a0]) 6 ⟨lk [], lkO [], lk [], lk []⟩ Try.func84 rfl Try.ntmps84 rfl has84 mixed (Eq.mp (by kernel_rfl) h)

/-- marline/obj.noCommit -/
def V85 (R : Value → World → Prop) (a0 : Value) (w : World) : Prop :=
  Does Try.prog (Instr.box 72 a0) w fun o1 w =>
  Does Try.prog (Instr.fieldAt 72 o1 3) w fun t3 w =>
  Does Try.prog (Instr.loadAt 9 t3) w fun t4 w =>
  Does Try.prog (eqE .eql 9 (Go.Operand.tmp 4) (Go.Operand.const (Go.Value.string { data := #[] })) t4 (Go.Value.string { data := #[] })) w fun t5 w =>
  JoinP 1 (fun j1 => GuardP t5 true (
    Does Try.prog (Instr.fieldAt 72 o1 4) w fun t7 w =>
    Does Try.prog (Instr.loadAt 23 t7) w fun t8 w =>
    Does Try.prog (Builtin.len_ #[23] 3 #[t8]) w fun t9 w =>
    Does Try.prog (eqE .eql 3 (Go.Operand.tmp 9) (Go.Operand.const (Go.Value.int Go.IntKind.i64 0)) t9 (Go.Value.int Go.IntKind.i64 0)) w fun t10 w =>
    j1 t10 w
  ) (j1 undef w))
  (fun t10 w => ∀ _ : Nat → Value,
  PickP t5 t10 (Go.Value.bool false) fun t11 =>
  JoinP 1 (fun j2 => GuardP t11 true (
    Does Try.prog (Instr.fieldAt 72 o1 5) w fun t13 w =>
    Does Try.prog (Instr.loadAt 3 t13) w fun t14 w =>
    Does Try.prog (eqE .eql 3 (Go.Operand.tmp 14) (Go.Operand.const (Go.Value.int Go.IntKind.i64 0)) t14 (Go.Value.int Go.IntKind.i64 0)) w fun t15 w =>
    j2 t15 w
  ) (j2 undef w))
  (fun t15 w => ∀ _ : Nat → Value,
  PickP t11 t15 (Go.Value.bool false) fun t16 =>
  JoinP 1 (fun j3 => GuardP t16 true (
    Does Try.prog (Instr.fieldAt 72 o1 6) w fun t18 w =>
    Does Try.prog (Instr.loadAt 3 t18) w fun t19 w =>
    Does Try.prog (eqE .eql 3 (Go.Operand.tmp 19) (Go.Operand.const (Go.Value.int Go.IntKind.i64 0)) t19 (Go.Value.int Go.IntKind.i64 0)) w fun t20 w =>
    j3 t20 w
  ) (j3 undef w))
  (fun t20 w => ∀ _ : Nat → Value,
  PickP t16 t20 (Go.Value.bool false) fun t21 =>
  JoinP 1 (fun j4 => GuardP t21 true (
    Does Try.prog (Instr.fieldAt 72 o1 7) w fun t23 w =>
    Does Try.prog (Instr.loadAt 9 t23) w fun t24 w =>
    Does Try.prog (eqE .eql 9 (Go.Operand.tmp 24) (Go.Operand.const (Go.Value.string { data := #[] })) t24 (Go.Value.string { data := #[] })) w fun t25 w =>
    j4 t25 w
  ) (j4 undef w))
  (fun t25 w => ∀ _ : Nat → Value,
  PickP t21 t25 (Go.Value.bool false) fun t26 =>
  R t26 w
  )
  )
  )
  )
theorem has85 : hasBody Try.prog 85 = true := by kernel_rfl
theorem vc85 {R : Value → World → Prop} {a0 : Value} {w : World} (h : V85 R a0 w) : Call Try.prog 85 #[a0] w R :=
  vc_of (args := [a0]) 27 ⟨lk [], lkO [], lk [], lk []⟩ Try.func85 rfl Try.ntmps85 rfl has85 mixed (Eq.mp (by kernel_rfl) h)

/-- marline/obj.mayItems -/
def V86 (R : Value → World → Prop) (a0 : Value) (w : World) : Prop :=
  Does Try.prog (Builtin.len_ #[70] 3 #[a0]) w fun t6 w =>
  Rounds 1 (fun next1 t7 w => ∀ _ : Nat → Value,
    Does Try.prog (binOp .lss 3 t7 t6) w fun t8 w =>
    CondP t8 (
      Does Try.prog (Instr.indexAt 70 a0 t7) w fun t10 w =>
      Does Try.prog (Instr.loadAt 106 t10) w fun t11 w =>
      Does Try.prog (Instr.alloc 106 true (.tuple #[])) w fun x4 w =>
      Does Try.prog (Instr.storeAt 106 x4 t11) w fun _ w =>
      DrawP Try.prog 51 (opsOf Try.f86 4) [0, 3, 4] [a0, t7, x4] [46] (fun t46 w => ∀ _ : Nat → Value,
      CondP t46 (
        R (Go.Value.bool false) w
      ) (
        Does Try.prog (binOp .add 3 t7 (Go.Value.int Go.IntKind.i64 1)) w fun t47 w =>
        next1 t47 w
      )
) w
    ) (
      Does Try.prog (Builtin.len_ #[70] 3 #[a0]) w fun t49 w =>
      Does Try.prog (binOp .leq 3 t49 (Go.Value.int Go.IntKind.i64 256)) w fun t50 w =>
      R t50 w
    )
  ) (Go.Value.int Go.IntKind.i64 0) w
theorem has86 : hasBody Try.prog 86 = true := by kernel_rfl
theorem vc86 {R : Value → World → Prop} {a0 : Value} {w : World} (h : V86 R a0 w) : Call Try.prog 86 #[a0] w R :=
  vc_of (args := [a0]) 51 ⟨lk [(2, [7])], lkO [], lk [(4, [0, 3, 4])], lk [(4, [46])]⟩ Try.func86 rfl Try.ntmps86 rfl has86 mixed (Eq.mp (by kernel_rfl) h)

/-- marline/sha.Valid -/
def V87 (R : Value → World → Prop) (a0 : Value) (w : World) : Prop :=
  Call Try.prog 91 #[a0] w fun t7 w =>
  Does Try.prog (Instr.extract t7 0) w fun t8 w =>
  Does Try.prog (Instr.extract t7 1) w fun t9 w =>
  JoinP 1 (fun j1 => GuardP t9 true (
    Does Try.prog (Builtin.len_ #[34] 3 #[t8]) w fun t13 w =>
    Does Try.prog (eqE .eql 3 (Go.Operand.tmp 13) (Go.Operand.const (Go.Value.int Go.IntKind.i64 32)) t13 (Go.Value.int Go.IntKind.i64 32)) w fun t14 w =>
    j1 t14 w
  ) (j1 undef w))
  (fun t14 w => ∀ _ : Nat → Value,
  PickP t9 t14 (Go.Value.bool false) fun t15 =>
  R t15 w
  )
theorem has87 : hasBody Try.prog 87 = true := by kernel_rfl
theorem vc87 {R : Value → World → Prop} {a0 : Value} {w : World} (h : V87 R a0 w) : Call Try.prog 87 #[a0] w R :=
  vc_of (args := [a0]) 16 ⟨lk [], lkO [], lk [], lk []⟩ Try.func87 rfl Try.ntmps87 rfl has87 mixed (Eq.mp (by kernel_rfl) h)

/-- marline/obj.mayParents -/
def V88 (R : Value → World → Prop) (a0 : Value) (w : World) : Prop :=
  Does Try.prog (Builtin.len_ #[23] 3 #[a0]) w fun t6 w =>
  Rounds 1 (fun next1 t7 w => ∀ _ : Nat → Value,
    Does Try.prog (binOp .lss 3 t7 t6) w fun t8 w =>
    CondP t8 (
      Does Try.prog (Instr.indexAt 23 a0 t7) w fun t10 w =>
      Does Try.prog (Instr.loadAt 9 t10) w fun t11 w =>
      Call Try.prog 87 #[t11] w fun t13 w =>
      Does Try.prog (Op.unary Go.UnOp.not t13) w fun t14 w =>
      JoinP 1 (fun j2 => GuardP t14 false (
        Does Try.prog (binOp .gtr 3 t7 (Go.Value.int Go.IntKind.i64 0)) w fun t17 w =>
        j2 t17 w
      ) (j2 undef w))
      (fun t18 w => ∀ _ : Nat → Value,
      JoinP 1 (fun j3 => GuardP t18 true (
        Does Try.prog (binOp .sub 3 t7 (Go.Value.int Go.IntKind.i64 1)) w fun t22 w =>
        Does Try.prog (Instr.indexAt 23 a0 t22) w fun t23 w =>
        Does Try.prog (Instr.loadAt 9 t23) w fun t24 w =>
        Does Try.prog (binOp .leq 9 t11 t24) w fun t25 w =>
        j3 t25 w
      ) (j3 undef w))
      (fun t25 w => ∀ _ : Nat → Value,
      JoinP 1 (fun j4 => GuardP t14 false (
        PickP t18 t25 (Go.Value.bool false) fun t26 =>
        j4 t26 w
      ) (j4 undef w))
      (fun t26 w => ∀ _ : Nat → Value,
      PickP t14 (Go.Value.bool true) t26 fun t27 =>
      CondP t27 (
        R (Go.Value.bool false) w
      ) (
        Does Try.prog (binOp .add 3 t7 (Go.Value.int Go.IntKind.i64 1)) w fun t28 w =>
        next1 t28 w
      )
      )
      )
      )
    ) (
      Does Try.prog (Builtin.len_ #[23] 3 #[a0]) w fun t30 w =>
      Does Try.prog (binOp .leq 3 t30 (Go.Value.int Go.IntKind.i64 2)) w fun t31 w =>
      R t31 w
    )
  ) (Go.Value.int Go.IntKind.i64 0) w
theorem has88 : hasBody Try.prog 88 = true := by kernel_rfl
theorem vc88 {R : Value → World → Prop} {a0 : Value} {w : World} (h : V88 R a0 w) : Call Try.prog 88 #[a0] w R :=
  vc_of (args := [a0]) 32 ⟨lk [(2, [7])], lkO [], lk [], lk []⟩ Try.func88 rfl Try.ntmps88 rfl has88 mixed (Eq.mp (by kernel_rfl) h)

/-- marline/obj.mayMsg -/
def V89 (R : Value → World → Prop) (a0 : Value) (w : World) : Prop :=
  Does Try.prog (Builtin.len_ #[9] 3 #[a0]) w fun t5 w =>
  Rounds 1 (fun next1 t6 w => ∀ _ : Nat → Value,
    Does Try.prog (binOp .lss 3 t6 t5) w fun t7 w =>
    CondP t7 (
      Does Try.prog (Instr.index 9 a0 t6) w fun t11 w =>
      Does Try.prog (binOp .lss 5 t11 (Go.Value.int Go.IntKind.u8 32)) w fun t12 w =>
      JoinP 1 (fun j2 => GuardP t12 false (
        Does Try.prog (Instr.index 9 a0 t6) w fun t16 w =>
        Does Try.prog (binOp .gtr 5 t16 (Go.Value.int Go.IntKind.u8 126)) w fun t17 w =>
        j2 t17 w
      ) (j2 undef w))
      (fun t17 w => ∀ _ : Nat → Value,
      PickP t12 (Go.Value.bool true) t17 fun t18 =>
      CondP t18 (
        R (Go.Value.bool false) w
      ) (
        Does Try.prog (binOp .add 3 t6 (Go.Value.int Go.IntKind.i64 1)) w fun t19 w =>
        next1 t19 w
      )
      )
    ) (
      Does Try.prog (Builtin.len_ #[9] 3 #[a0]) w fun t21 w =>
      Does Try.prog (binOp .leq 3 t21 (Go.Value.int Go.IntKind.i64 200)) w fun t22 w =>
      R t22 w
    )
  ) (Go.Value.int Go.IntKind.i64 0) w
theorem has89 : hasBody Try.prog 89 = true := by kernel_rfl
theorem vc89 {R : Value → World → Prop} {a0 : Value} {w : World} (h : V89 R a0 w) : Call Try.prog 89 #[a0] w R :=
  vc_of (args := [a0]) 23 ⟨lk [(2, [6])], lkO [], lk [], lk []⟩ Try.func89 rfl Try.ntmps89 rfl has89 mixed (Eq.mp (by kernel_rfl) h)

/-- marline/wire.Put -/
def V90 (R : Value → World → Prop) (a0 : Value) (w : World) : Prop :=
  Does Try.prog (binOp .lss 3 a0 (Go.Value.int Go.IntKind.i64 0)) w fun t5 w =>
  JoinP 1 (fun j1 => GuardP t5 false (
    Does Try.prog (binOp .gtr 3 a0 (Go.Value.int Go.IntKind.i64 72057594037927936)) w fun t8 w =>
    j1 t8 w
  ) (j1 undef w))
  (fun t8 w => ∀ _ : Nat → Value,
  PickP t5 (Go.Value.bool true) t8 fun t9 =>
  CondP t9 (
    R (Value.tuple #[(Go.Value.slice none 0 0), (Go.Value.int Go.IntKind.i64 1)]) w
  ) (
    Call Try.prog 107 #[a0] w fun t11 w =>
    R (Value.tuple #[t11, (Go.Value.int Go.IntKind.i64 0)]) w
  )
  )
theorem has90 : hasBody Try.prog 90 = true := by kernel_rfl
theorem vc90 {R : Value → World → Prop} {a0 : Value} {w : World} (h : V90 R a0 w) : Call Try.prog 90 #[a0] w R :=
  vc_of (args := [a0]) 12 ⟨lk [], lkO [], lk [], lk []⟩ Try.func90 rfl Try.ntmps90 rfl has90 mixed (Eq.mp (by kernel_rfl) h)

/-- marline/sha.Unhex -/
def V91 (R : Value → World → Prop) (a0 : Value) (w : World) : Prop :=
  Does Try.prog (Builtin.len_ #[9] 3 #[a0]) w fun t9 w =>
  Does Try.prog (binOp .rem 3 t9 (Go.Value.int Go.IntKind.i64 2)) w fun t10 w =>
  Does Try.prog (eqE .neq 3 (Go.Operand.tmp 10) (Go.Operand.const (Go.Value.int Go.IntKind.i64 0)) t10 (Go.Value.int Go.IntKind.i64 0)) w fun t11 w =>
  CondP t11 (
    R (Value.tuple #[(Go.Value.slice none 0 0), (Go.Value.bool false)]) w
  ) (
    Rounds 2 (fun next1 out4 i5 w => ∀ _ : Nat → Value,
      Does Try.prog (Builtin.len_ #[9] 3 #[a0]) w fun t14 w =>
      Does Try.prog (binOp .lss 3 i5 t14) w fun t15 w =>
      CondP t15 (
        DrawP Try.prog 42 (opsOf Try.f91 7) [0, 5] [a0, i5] [6, 7] (fun high6 low7 w => ∀ _ : Nat → Value,
        Does Try.prog (binOp .lss 3 high6 (Go.Value.int Go.IntKind.i64 0)) w fun t28 w =>
        JoinP 1 (fun j2 => GuardP t28 false (
          Does Try.prog (binOp .lss 3 low7 (Go.Value.int Go.IntKind.i64 0)) w fun t31 w =>
          j2 t31 w
        ) (j2 undef w))
        (fun t31 w => ∀ _ : Nat → Value,
        PickP t28 (Go.Value.bool true) t31 fun t32 =>
        CondP t32 (
          R (Value.tuple #[(Go.Value.slice none 0 0), (Go.Value.bool false)]) w
        ) (
          Does Try.prog (binOp .shl 3 high6 (Go.Value.int Go.IntKind.u64 4)) w fun t35 w =>
          Does Try.prog (binOp .or 3 t35 low7) w fun t37 w =>
          Does Try.prog (convert 3 5 t37) w fun t38 w =>
          Does Try.prog (Instr.buildSlice 34 1 #[(0, t38)]) w fun t39 w =>
          Does Try.prog (Builtin.append_ #[34, 34] 34 #[out4, t39]) w fun t40 w =>
          Does Try.prog (binOp .add 3 i5 (Go.Value.int Go.IntKind.i64 2)) w fun t17 w =>
          next1 t40 t17 w
        )
        )
) w
      ) (
        R (Value.tuple #[out4, (Go.Value.bool true)]) w
      )
    ) (Go.Value.slice none 0 0) (Go.Value.int Go.IntKind.i64 0) w
  )
theorem has91 : hasBody Try.prog 91 = true := by kernel_rfl
theorem vc91 {R : Value → World → Prop} {a0 : Value} {w : World} (h : V91 R a0 w) : Call Try.prog 91 #[a0] w R :=
  vc_of (args := [a0]) 42 ⟨lk [(5, [4, 5])], lkO [], lk [(7, [0, 5])], lk [(7, [6, 7])]⟩ Try.func91 rfl Try.ntmps91 rfl has91 mixed (Eq.mp (by kernel_rfl) h)

/-- marline/marref1.constants -/
def V92 (R : Value → World → Prop) (w : World) : Prop :=
  Does Try.prog (Instr.buildSlice 118 64 #[(0, (Go.Value.int Go.IntKind.u32 1116352408)), (1, (Go.Value.int Go.IntKind.u32 1899447441)), (2, (Go.Value.int Go.IntKind.u32 3049323471)), (3, (Go.Value.int Go.IntKind.u32 3921009573)), (4, (Go.Value.int Go.IntKind.u32 961987163)), (5, (Go.Value.int Go.IntKind.u32 1508970993)), (6, (Go.Value.int Go.IntKind.u32 2453635748)), (7, (Go.Value.int Go.IntKind.u32 2870763221)), (8, (Go.Value.int Go.IntKind.u32 3624381080)), (9, (Go.Value.int Go.IntKind.u32 310598401)), (10, (Go.Value.int Go.IntKind.u32 607225278)), (11, (Go.Value.int Go.IntKind.u32 1426881987)), (12, (Go.Value.int Go.IntKind.u32 1925078388)), (13, (Go.Value.int Go.IntKind.u32 2162078206)), (14, (Go.Value.int Go.IntKind.u32 2614888103)), (15, (Go.Value.int Go.IntKind.u32 3248222580)), (16, (Go.Value.int Go.IntKind.u32 3835390401)), (17, (Go.Value.int Go.IntKind.u32 4022224774)), (18, (Go.Value.int Go.IntKind.u32 264347078)), (19, (Go.Value.int Go.IntKind.u32 604807628)), (20, (Go.Value.int Go.IntKind.u32 770255983)), (21, (Go.Value.int Go.IntKind.u32 1249150122)), (22, (Go.Value.int Go.IntKind.u32 1555081692)), (23, (Go.Value.int Go.IntKind.u32 1996064986)), (24, (Go.Value.int Go.IntKind.u32 2554220882)), (25, (Go.Value.int Go.IntKind.u32 2821834349)), (26, (Go.Value.int Go.IntKind.u32 2952996808)), (27, (Go.Value.int Go.IntKind.u32 3210313671)), (28, (Go.Value.int Go.IntKind.u32 3336571891)), (29, (Go.Value.int Go.IntKind.u32 3584528711)), (30, (Go.Value.int Go.IntKind.u32 113926993)), (31, (Go.Value.int Go.IntKind.u32 338241895)), (32, (Go.Value.int Go.IntKind.u32 666307205)), (33, (Go.Value.int Go.IntKind.u32 773529912)), (34, (Go.Value.int Go.IntKind.u32 1294757372)), (35, (Go.Value.int Go.IntKind.u32 1396182291)), (36, (Go.Value.int Go.IntKind.u32 1695183700)), (37, (Go.Value.int Go.IntKind.u32 1986661051)), (38, (Go.Value.int Go.IntKind.u32 2177026350)), (39, (Go.Value.int Go.IntKind.u32 2456956037)), (40, (Go.Value.int Go.IntKind.u32 2730485921)), (41, (Go.Value.int Go.IntKind.u32 2820302411)), (42, (Go.Value.int Go.IntKind.u32 3259730800)), (43, (Go.Value.int Go.IntKind.u32 3345764771)), (44, (Go.Value.int Go.IntKind.u32 3516065817)), (45, (Go.Value.int Go.IntKind.u32 3600352804)), (46, (Go.Value.int Go.IntKind.u32 4094571909)), (47, (Go.Value.int Go.IntKind.u32 275423344)), (48, (Go.Value.int Go.IntKind.u32 430227734)), (49, (Go.Value.int Go.IntKind.u32 506948616)), (50, (Go.Value.int Go.IntKind.u32 659060556)), (51, (Go.Value.int Go.IntKind.u32 883997877)), (52, (Go.Value.int Go.IntKind.u32 958139571)), (53, (Go.Value.int Go.IntKind.u32 1322822218)), (54, (Go.Value.int Go.IntKind.u32 1537002063)), (55, (Go.Value.int Go.IntKind.u32 1747873779)), (56, (Go.Value.int Go.IntKind.u32 1955562222)), (57, (Go.Value.int Go.IntKind.u32 2024104815)), (58, (Go.Value.int Go.IntKind.u32 2227730452)), (59, (Go.Value.int Go.IntKind.u32 2361852424)), (60, (Go.Value.int Go.IntKind.u32 2428436474)), (61, (Go.Value.int Go.IntKind.u32 2756734187)), (62, (Go.Value.int Go.IntKind.u32 3204031479)), (63, (Go.Value.int Go.IntKind.u32 3329325298))]) w fun t1 w =>
  R t1 w
theorem has92 : hasBody Try.prog 92 = true := by kernel_rfl
theorem vc92 {R : Value → World → Prop} {_u : Unit} {w : World} (h : V92 R  w) : Call Try.prog 92 #[] w R :=
  vc_of (args := []) 2 ⟨lk [], lkO [], lk [], lk []⟩ Try.func92 rfl Try.ntmps92 rfl has92 mixed (Eq.mp (by kernel_rfl) h)

/-- marline/marref1.turn -/
def V93 (R : Value → World → Prop) (a0 a1 : Value) (w : World) : Prop :=
  DrawP Try.prog 13 (opsOf Try.f93 1) [0, 1] [a0, a1] [4] (fun t4 w => ∀ _ : Nat → Value,
  R t4 w
) w
theorem has93 : hasBody Try.prog 93 = true := by kernel_rfl
theorem vc93 {R : Value → World → Prop} {a0 a1 : Value} {w : World} (h : V93 R a0 a1 w) : Call Try.prog 93 #[a0, a1] w R :=
  vc_of (args := [a0, a1]) 13 ⟨lk [], lkO [], lk [(1, [0, 1])], lk [(1, [4])]⟩ Try.func93 rfl Try.ntmps93 rfl has93 mixed (Eq.mp (by kernel_rfl) h)

/-- marline/obj.read -/
def V94 (R : Value → World → Prop) (a0 a1 : Value) (w : World) : Prop :=
  Does Try.prog (Instr.alloc 72 true (.tuple #[])) w fun r4 w =>
  Does Try.prog (Instr.build 72 #[(0, a0)]) w fun t14 w =>
  Does Try.prog (Instr.alloc 72 true (.tuple #[])) w fun a5 w =>
  Does Try.prog (Instr.storeAt 72 a5 t14) w fun _ w =>
  Does Try.prog (Instr.build 131 #[(0, a1)]) w fun t16 w =>
  Does Try.prog (Instr.box 131 t16) w fun t17 w =>
  Does Try.prog (eqE .eql 3 (Go.Operand.tmp 18) (Go.Operand.const (Go.Value.int Go.IntKind.i64 1)) a0 (Go.Value.int Go.IntKind.i64 1)) w fun t20 w =>
  CondP t20 (
    Call Try.prog 109 #[a1] w fun t22 w =>
    Does Try.prog (Instr.fieldAt 72 a5 1) w fun t23 w =>
    Does Try.prog (Instr.storeAt 34 t23 t22) w fun _ w =>
    Does Try.prog (Instr.loadAt 72 a5) w fun t95 w =>
    Does Try.prog (Instr.storeAt 72 r4 t95) w fun _ w =>
    SameP Try.prog (loadRes 72 r4) w fun r0 =>
    R r0 w
  ) (
    Does Try.prog (eqE .eql 3 (Go.Operand.tmp 18) (Go.Operand.const (Go.Value.int Go.IntKind.i64 2)) a0 (Go.Value.int Go.IntKind.i64 2)) w fun t25 w =>
    CondP t25 (
      Call Try.prog 110 #[t17] w fun t27 w =>
      Rounds 1 (fun next1 t8 w => ∀ _ : Nat → Value,
        Does Try.prog (binOp .lss 3 t8 t27) w fun t30 w =>
        JoinP 1 (fun j2 => GuardP t30 true (
          NilCheckP t17 fun t33 =>
          Does Try.prog (Instr.fieldAt 131 t33 1) w fun t34 w =>
          Does Try.prog (Instr.loadAt 4 t34) w fun t35 w =>
          Does Try.prog (Op.unary Go.UnOp.not t35) w fun t36 w =>
          j2 t36 w
        ) (j2 undef w))
        (fun t36 w => ∀ _ : Nat → Value,
        PickP t30 t36 (Go.Value.bool false) fun t37 =>
        CondP t37 (
          Call Try.prog 111 #[t17] w fun t41 w =>
          Call Try.prog 110 #[t17] w fun t44 w =>
          Call Try.prog 112 #[t17, t44] w fun t45 w =>
          Does Try.prog (convert 34 9 t45) w fun t46 w =>
          DrawP Try.prog 96 (opsOf Try.f94 13) [5, 6, 9, 10] [a5, t17, t41, t46] [] (fun  w => ∀ _ : Nat → Value,
          Does Try.prog (binOp .add 3 t8 (Go.Value.int Go.IntKind.i64 1)) w fun t39 w =>
          next1 t39 w
) w
        ) (
          Does Try.prog (Instr.loadAt 72 a5) w fun t95 w =>
          Does Try.prog (Instr.storeAt 72 r4 t95) w fun _ w =>
          SameP Try.prog (loadRes 72 r4) w fun r0 =>
          R r0 w
        )
        )
      ) (Go.Value.int Go.IntKind.i64 0) w
    ) (
      Does Try.prog (eqE .eql 3 (Go.Operand.tmp 18) (Go.Operand.const (Go.Value.int Go.IntKind.i64 3)) a0 (Go.Value.int Go.IntKind.i64 3)) w fun t58 w =>
      CondP t58 (
        Call Try.prog 113 #[t17] w fun t60 w =>
        Does Try.prog (Instr.fieldAt 72 a5 3) w fun t61 w =>
        Does Try.prog (Instr.storeAt 9 t61 t60) w fun _ w =>
        Call Try.prog 111 #[t17] w fun t63 w =>
        Rounds 1 (fun next3 t12 w => ∀ _ : Nat → Value,
          Does Try.prog (binOp .lss 3 t12 t63) w fun t66 w =>
          JoinP 1 (fun j4 => GuardP t66 true (
            NilCheckP t17 fun t69 =>
            Does Try.prog (Instr.fieldAt 131 t69 1) w fun t70 w =>
            Does Try.prog (Instr.loadAt 4 t70) w fun t71 w =>
            Does Try.prog (Op.unary Go.UnOp.not t71) w fun t72 w =>
            j4 t72 w
          ) (j4 undef w))
          (fun t72 w => ∀ _ : Nat → Value,
          PickP t66 t72 (Go.Value.bool false) fun t73 =>
          CondP t73 (
            DrawP Try.prog 96 (opsOf Try.f94 20) [5, 6] [a5, t17] [] (fun  w => ∀ _ : Nat → Value,
            Does Try.prog (binOp .add 3 t12 (Go.Value.int Go.IntKind.i64 1)) w fun t75 w =>
            next3 t75 w
) w
          ) (
            Call Try.prog 110 #[t17] w fun t84 w =>
            Call Try.prog 110 #[t17] w fun t86 w =>
            Does Try.prog (Instr.fieldAt 72 a5 5) w fun t87 w =>
            Does Try.prog (Instr.storeAt 3 t87 t84) w fun _ w =>
            Does Try.prog (Instr.fieldAt 72 a5 6) w fun t88 w =>
            Does Try.prog (Instr.storeAt 3 t88 t86) w fun _ w =>
            Call Try.prog 110 #[t17] w fun t91 w =>
            Call Try.prog 112 #[t17, t91] w fun t92 w =>
            Does Try.prog (convert 34 9 t92) w fun t93 w =>
            Does Try.prog (Instr.fieldAt 72 a5 7) w fun t94 w =>
            Does Try.prog (Instr.storeAt 9 t94 t93) w fun _ w =>
            Does Try.prog (Instr.loadAt 72 a5) w fun t95 w =>
            Does Try.prog (Instr.storeAt 72 r4 t95) w fun _ w =>
            SameP Try.prog (loadRes 72 r4) w fun r0 =>
            R r0 w
          )
          )
        ) (Go.Value.int Go.IntKind.i64 0) w
      ) (
        Does Try.prog (Instr.loadAt 72 a5) w fun t95 w =>
        Does Try.prog (Instr.storeAt 72 r4 t95) w fun _ w =>
        SameP Try.prog (loadRes 72 r4) w fun r0 =>
        R r0 w
      )
    )
  )
theorem has94 : hasBody Try.prog 94 = true := by kernel_rfl
theorem vc94 {R : Value → World → Prop} {a0 a1 : Value} {w : World} (h : V94 R a0 a1 w) : Call Try.prog 94 #[a0, a1] w R :=
  vc_of (args := [a0, a1]) 96 ⟨lk [(9, [8]), (18, [12])], lkO [], lk [(13, [5, 6, 9, 10]), (20, [5, 6])], lk [(13, []), (20, [])]⟩ Try.func94 rfl Try.ntmps94 rfl has94 mixed (Eq.mp (by kernel_rfl) h)

/-- bytes.Equal -/
def V95 (R : Value → World → Prop) (a0 a1 : Value) (w : World) : Prop :=
  Does Try.prog (convert 34 9 a0) w fun t6 w =>
  Does Try.prog (convert 34 9 a1) w fun t8 w =>
  Does Try.prog (eqE .eql 9 (Go.Operand.tmp 6) (Go.Operand.tmp 8) t6 t8) w fun t9 w =>
  R t9 w
theorem has95 : hasBody Try.prog 95 = true := by kernel_rfl
theorem vc95 {R : Value → World → Prop} {a0 a1 : Value} {w : World} (h : V95 R a0 a1 w) : Call Try.prog 95 #[a0, a1] w R :=
  vc_of (args := [a0, a1]) 10 ⟨lk [], lkO [], lk [], lk []⟩ Try.func95 rfl Try.ntmps95 rfl has95 mixed (Eq.mp (by kernel_rfl) h)

/-- marline/wire.Compare -/
def V96 (R : Value → World → Prop) (a0 a1 : Value) (w : World) : Prop :=
  Does Try.prog (binOp .lss 9 a0 a1) w fun t8 w =>
  CondP t8 (
    R (Go.Value.int Go.IntKind.i64 (-1)) w
  ) (
    Does Try.prog (binOp .gtr 9 a0 a1) w fun t12 w =>
    CondP t12 (
      R (Go.Value.int Go.IntKind.i64 1) w
    ) (
      R (Go.Value.int Go.IntKind.i64 0) w
    )
  )
theorem has96 : hasBody Try.prog 96 = true := by kernel_rfl
theorem vc96 {R : Value → World → Prop} {a0 a1 : Value} {w : World} (h : V96 R a0 a1 w) : Call Try.prog 96 #[a0, a1] w R :=
  vc_of (args := [a0, a1]) 13 ⟨lk [], lkO [], lk [], lk []⟩ Try.func96 rfl Try.ntmps96 rfl has96 mixed (Eq.mp (by kernel_rfl) h)

/-- marline/marref1.Put -/
def V97 (R : Value → World → Prop) (a0 : Value) (w : World) : Prop :=
  Does Try.prog (binOp .lss 3 a0 (Go.Value.int Go.IntKind.i64 0)) w fun t6 w =>
  JoinP 1 (fun j1 => GuardP t6 false (
    Does Try.prog (binOp .gtr 3 a0 (Go.Value.int Go.IntKind.i64 72057594037927936)) w fun t9 w =>
    j1 t9 w
  ) (j1 undef w))
  (fun t9 w => ∀ _ : Nat → Value,
  PickP t6 (Go.Value.bool true) t9 fun t10 =>
  CondP t10 (
    R (Value.tuple #[(Go.Value.slice none 0 0), (Go.Value.int Go.IntKind.i64 1)]) w
  ) (
    Rounds 2 (fun next2 n0 out4 w => ∀ _ : Nat → Value,
      Does Try.prog (binOp .gtr 3 n0 (Go.Value.int Go.IntKind.i64 127)) w fun t12 w =>
      CondP t12 (
        Does Try.prog (binOp .and 3 n0 (Go.Value.int Go.IntKind.i64 127)) w fun t15 w =>
        Does Try.prog (binOp .or 3 t15 (Go.Value.int Go.IntKind.i64 128)) w fun t16 w =>
        Does Try.prog (convert 3 5 t16) w fun t17 w =>
        Does Try.prog (Instr.buildSlice 34 1 #[(0, t17)]) w fun t18 w =>
        Does Try.prog (Builtin.append_ #[34, 34] 34 #[out4, t18]) w fun t19 w =>
        Does Try.prog (binOp .shr 3 n0 (Go.Value.int Go.IntKind.u64 7)) w fun t21 w =>
        next2 t21 t19 w
      ) (
        Does Try.prog (convert 3 5 n0) w fun t24 w =>
        Does Try.prog (Instr.buildSlice 34 1 #[(0, t24)]) w fun t25 w =>
        Does Try.prog (Builtin.append_ #[34, 34] 34 #[out4, t25]) w fun t26 w =>
        R (Value.tuple #[t26, (Go.Value.int Go.IntKind.i64 0)]) w
      )
    ) a0 (Go.Value.slice none 0 0) w
  )
  )
theorem has97 : hasBody Try.prog 97 = true := by kernel_rfl
theorem vc97 {R : Value → World → Prop} {a0 : Value} {w : World} (h : V97 R a0 w) : Call Try.prog 97 #[a0] w R :=
  vc_of (args := [a0]) 27 ⟨lk [(4, [0, 4])], lkO [], lk [], lk []⟩ Try.func97 rfl Try.ntmps97 rfl has97 mixed (Eq.mp (by kernel_rfl) h)

/-- marline/marref6.items -/
def V98 (R : Value → World → Prop) (a0 : Value) (w : World) : Prop :=
  Rounds 1 (fun next1 i3 w => ∀ _ : Nat → Value,
    Does Try.prog (Builtin.len_ #[36] 3 #[a0]) w fun t7 w =>
    Does Try.prog (binOp .lss 3 i3 t7) w fun t8 w =>
    CondP t8 (
      Does Try.prog (Instr.indexAt 36 a0 i3) w fun t13 w =>
      Does Try.prog (Instr.loadAt 87 t13) w fun t14 w =>
      Does Try.prog (Instr.alloc 87 true (.tuple #[])) w fun x4 w =>
      Does Try.prog (Instr.storeAt 87 x4 t14) w fun _ w =>
      DrawP Try.prog 53 (opsOf Try.f98 5) [0, 3, 4] [a0, i3, x4] [49] (fun t49 w => ∀ _ : Nat → Value,
      CondP t49 (
        R (Go.Value.bool false) w
      ) (
        Does Try.prog (binOp .add 3 i3 (Go.Value.int Go.IntKind.i64 1)) w fun t10 w =>
        next1 t10 w
      )
) w
    ) (
      Does Try.prog (Builtin.len_ #[36] 3 #[a0]) w fun t51 w =>
      Does Try.prog (binOp .leq 3 t51 (Go.Value.int Go.IntKind.i64 256)) w fun t52 w =>
      R t52 w
    )
  ) (Go.Value.int Go.IntKind.i64 0) w
theorem has98 : hasBody Try.prog 98 = true := by kernel_rfl
theorem vc98 {R : Value → World → Prop} {a0 : Value} {w : World} (h : V98 R a0 w) : Call Try.prog 98 #[a0] w R :=
  vc_of (args := [a0]) 53 ⟨lk [(2, [3])], lkO [], lk [(5, [0, 3, 4])], lk [(5, [49])]⟩ Try.func98 rfl Try.ntmps98 rfl has98 mixed (Eq.mp (by kernel_rfl) h)

/-- marline/marref1.Valid -/
def V99 (R : Value → World → Prop) (a0 : Value) (w : World) : Prop :=
  Call Try.prog 102 #[a0] w fun t7 w =>
  Does Try.prog (Instr.extract t7 0) w fun t8 w =>
  Does Try.prog (Instr.extract t7 1) w fun t9 w =>
  JoinP 1 (fun j1 => GuardP t9 true (
    Does Try.prog (Builtin.len_ #[34] 3 #[t8]) w fun t13 w =>
    Does Try.prog (eqE .eql 3 (Go.Operand.tmp 13) (Go.Operand.const (Go.Value.int Go.IntKind.i64 32)) t13 (Go.Value.int Go.IntKind.i64 32)) w fun t14 w =>
    j1 t14 w
  ) (j1 undef w))
  (fun t14 w => ∀ _ : Nat → Value,
  PickP t9 t14 (Go.Value.bool false) fun t15 =>
  R t15 w
  )
theorem has99 : hasBody Try.prog 99 = true := by kernel_rfl
theorem vc99 {R : Value → World → Prop} {a0 : Value} {w : World} (h : V99 R a0 w) : Call Try.prog 99 #[a0] w R :=
  vc_of (args := [a0]) 16 ⟨lk [], lkO [], lk [], lk []⟩ Try.func99 rfl Try.ntmps99 rfl has99 mixed (Eq.mp (by kernel_rfl) h)

/-- marline/marref6.valid -/
def V100 (R : Value → World → Prop) (a0 : Value) (w : World) : Prop :=
  Rounds 1 (fun next1 i3 w => ∀ _ : Nat → Value,
    Does Try.prog (Builtin.len_ #[23] 3 #[a0]) w fun t6 w =>
    Does Try.prog (binOp .lss 3 i3 t6) w fun t7 w =>
    CondP t7 (
      Does Try.prog (Instr.indexAt 23 a0 i3) w fun t12 w =>
      Does Try.prog (Instr.loadAt 9 t12) w fun t13 w =>
      Call Try.prog 99 #[t13] w fun t14 w =>
      Does Try.prog (Op.unary Go.UnOp.not t14) w fun t15 w =>
      CondP t15 (
        R (Go.Value.bool false) w
      ) (
        Does Try.prog (binOp .add 3 i3 (Go.Value.int Go.IntKind.i64 1)) w fun t9 w =>
        next1 t9 w
      )
    ) (
      R (Go.Value.bool true) w
    )
  ) (Go.Value.int Go.IntKind.i64 0) w
theorem has100 : hasBody Try.prog 100 = true := by kernel_rfl
theorem vc100 {R : Value → World → Prop} {a0 : Value} {w : World} (h : V100 R a0 w) : Call Try.prog 100 #[a0] w R :=
  vc_of (args := [a0]) 16 ⟨lk [(2, [3])], lkO [], lk [], lk []⟩ Try.func100 rfl Try.ntmps100 rfl has100 mixed (Eq.mp (by kernel_rfl) h)

/-- marline/marref6.Msg -/
def V101 (R : Value → World → Prop) (a0 : Value) (w : World) : Prop :=
  Rounds 1 (fun next1 i3 w => ∀ _ : Nat → Value,
    Does Try.prog (Builtin.len_ #[9] 3 #[a0]) w fun t6 w =>
    Does Try.prog (binOp .lss 3 i3 t6) w fun t7 w =>
    CondP t7 (
      Does Try.prog (Instr.index 9 a0 i3) w fun t12 w =>
      Does Try.prog (binOp .lss 5 t12 (Go.Value.int Go.IntKind.u8 32)) w fun t13 w =>
      JoinP 1 (fun j2 => GuardP t13 false (
        Does Try.prog (Instr.index 9 a0 i3) w fun t17 w =>
        Does Try.prog (binOp .gtr 5 t17 (Go.Value.int Go.IntKind.u8 126)) w fun t18 w =>
        j2 t18 w
      ) (j2 undef w))
      (fun t18 w => ∀ _ : Nat → Value,
      PickP t13 (Go.Value.bool true) t18 fun t19 =>
      CondP t19 (
        R (Go.Value.bool false) w
      ) (
        Does Try.prog (binOp .add 3 i3 (Go.Value.int Go.IntKind.i64 1)) w fun t9 w =>
        next1 t9 w
      )
      )
    ) (
      Does Try.prog (Builtin.len_ #[9] 3 #[a0]) w fun t21 w =>
      Does Try.prog (binOp .leq 3 t21 (Go.Value.int Go.IntKind.i64 200)) w fun t22 w =>
      R t22 w
    )
  ) (Go.Value.int Go.IntKind.i64 0) w
theorem has101 : hasBody Try.prog 101 = true := by kernel_rfl
theorem vc101 {R : Value → World → Prop} {a0 : Value} {w : World} (h : V101 R a0 w) : Call Try.prog 101 #[a0] w R :=
  vc_of (args := [a0]) 23 ⟨lk [(2, [3])], lkO [], lk [], lk []⟩ Try.func101 rfl Try.ntmps101 rfl has101 mixed (Eq.mp (by kernel_rfl) h)

/-- marline/marref1.Unhex -/
def V102 (R : Value → World → Prop) (a0 : Value) (w : World) : Prop :=
  Does Try.prog (Builtin.len_ #[9] 3 #[a0]) w fun t9 w =>
  Does Try.prog (binOp .rem 3 t9 (Go.Value.int Go.IntKind.i64 2)) w fun t10 w =>
  Does Try.prog (eqE .neq 3 (Go.Operand.tmp 10) (Go.Operand.const (Go.Value.int Go.IntKind.i64 0)) t10 (Go.Value.int Go.IntKind.i64 0)) w fun t11 w =>
  CondP t11 (
    R (Value.tuple #[(Go.Value.slice none 0 0), (Go.Value.bool false)]) w
  ) (
    Rounds 2 (fun next1 out4 i5 w => ∀ _ : Nat → Value,
      Does Try.prog (Builtin.len_ #[9] 3 #[a0]) w fun t14 w =>
      Does Try.prog (binOp .lss 3 i5 t14) w fun t15 w =>
      CondP t15 (
        DrawP Try.prog 42 (opsOf Try.f102 7) [0, 5] [a0, i5] [6, 7] (fun h6 l7 w => ∀ _ : Nat → Value,
        Does Try.prog (binOp .lss 3 h6 (Go.Value.int Go.IntKind.i64 0)) w fun t28 w =>
        JoinP 1 (fun j2 => GuardP t28 false (
          Does Try.prog (binOp .lss 3 l7 (Go.Value.int Go.IntKind.i64 0)) w fun t31 w =>
          j2 t31 w
        ) (j2 undef w))
        (fun t31 w => ∀ _ : Nat → Value,
        PickP t28 (Go.Value.bool true) t31 fun t32 =>
        CondP t32 (
          R (Value.tuple #[(Go.Value.slice none 0 0), (Go.Value.bool false)]) w
        ) (
          Does Try.prog (binOp .mul 3 (Go.Value.int Go.IntKind.i64 16) h6) w fun t35 w =>
          Does Try.prog (binOp .add 3 t35 l7) w fun t37 w =>
          Does Try.prog (convert 3 5 t37) w fun t38 w =>
          Does Try.prog (Instr.buildSlice 34 1 #[(0, t38)]) w fun t39 w =>
          Does Try.prog (Builtin.append_ #[34, 34] 34 #[out4, t39]) w fun t40 w =>
          Does Try.prog (binOp .add 3 i5 (Go.Value.int Go.IntKind.i64 2)) w fun t17 w =>
          next1 t40 t17 w
        )
        )
) w
      ) (
        R (Value.tuple #[out4, (Go.Value.bool true)]) w
      )
    ) (Go.Value.slice none 0 0) (Go.Value.int Go.IntKind.i64 0) w
  )
theorem has102 : hasBody Try.prog 102 = true := by kernel_rfl
theorem vc102 {R : Value → World → Prop} {a0 : Value} {w : World} (h : V102 R a0 w) : Call Try.prog 102 #[a0] w R :=
  vc_of (args := [a0]) 42 ⟨lk [(5, [4, 5])], lkO [], lk [(7, [0, 5])], lk [(7, [6, 7])]⟩ Try.func102 rfl Try.ntmps102 rfl has102 mixed (Eq.mp (by kernel_rfl) h)

/-- slices.insertionSortCmpFunc[string] -/
def V103 (R : Value → World → Prop) (a0 a1 a2 a3 : Value) (w : World) : Prop :=
  Does Try.prog (binOp .add 3 a1 (Go.Value.int Go.IntKind.i64 1)) w fun t11 w =>
  Rounds 1 (fun next1 i8 w => ∀ _ : Nat → Value,
    Does Try.prog (binOp .lss 3 i8 a2) w fun t14 w =>
    CondP t14 (
      Rounds 1 (fun next2 j9 w => ∀ _ : Nat → Value,
        DrawP Try.prog 53 (opsOf Try.f103 4) [0, 1, 3, 9] [a0, a1, a3, j9] [34] (fun t34 w => ∀ _ : Nat → Value,
        CondP t34 (
          DrawP Try.prog 53 (opsOf Try.f103 6) [0, 9] [a0, j9] [] (fun  w => ∀ _ : Nat → Value,
          Does Try.prog (binOp .sub 3 j9 (Go.Value.int Go.IntKind.i64 1)) w fun t36 w =>
          next2 t36 w
) w
        ) (
          Does Try.prog (binOp .add 3 i8 (Go.Value.int Go.IntKind.i64 1)) w fun t16 w =>
          next1 t16 w
        )
) w
      ) i8 w
    ) (
      R (Value.tuple #[]) w
    )
  ) t11 w
theorem has103 : hasBody Try.prog 103 = true := by kernel_rfl
theorem vc103 {R : Value → World → Prop} {a0 a1 a2 a3 : Value} {w : World} (h : V103 R a0 a1 a2 a3 w) : Call Try.prog 103 #[a0, a1, a2, a3] w R :=
  vc_of (args := [a0, a1, a2, a3]) 53 ⟨lk [(1, [8]), (4, [9])], lkO [], lk [(4, [0, 1, 3, 9]), (6, [0, 9])], lk [(4, [34]), (6, [])]⟩ Try.func103 rfl Try.ntmps103 rfl has103 mixed (Eq.mp (by kernel_rfl) h)

/-- slices.symMergeCmpFunc[string] -/
def V104 (R : Value → World → Prop) (a0 a1 a2 a3 a4 : Value) (w : World) : Prop :=
  Does Try.prog (binOp .sub 3 a2 a1) w fun t27 w =>
  Does Try.prog (eqE .eql 3 (Go.Operand.tmp 27) (Go.Operand.const (Go.Value.int Go.IntKind.i64 1)) t27 (Go.Value.int Go.IntKind.i64 1)) w fun t28 w =>
  CondP t28 (
    Rounds 2 (fun next1 t10 t11 w => ∀ _ : Nat → Value,
      Does Try.prog (binOp .lss 3 t10 t11) w fun t33 w =>
      CondP t33 (
        Does Try.prog (binOp .add 3 t10 t11) w fun t36 w =>
        Does Try.prog (convert 3 112 t36) w fun t37 w =>
        Does Try.prog (binOp .shr 112 t37 (Go.Value.int Go.IntKind.u64 1)) w fun t38 w =>
        Does Try.prog (convert 112 3 t38) w fun t39 w =>
        DrawP Try.prog 220 (opsOf Try.f104 5) [0, 1, 4, 12] [a0, a1, a4, t39] [50] (fun t50 w => ∀ _ : Nat → Value,
        CondP t50 (
          Does Try.prog (binOp .add 3 t39 (Go.Value.int Go.IntKind.i64 1)) w fun t52 w =>
          next1 t52 t11 w
        ) (
          next1 t10 t39 w
        )
) w
      ) (
        Rounds 1 (fun next2 t13 w => ∀ _ : Nat → Value,
          Does Try.prog (binOp .sub 3 t10 (Go.Value.int Go.IntKind.i64 1)) w fun t57 w =>
          Does Try.prog (binOp .lss 3 t13 t57) w fun t58 w =>
          CondP t58 (
            DrawP Try.prog 220 (opsOf Try.f104 11) [0, 13] [a0, t13] [] (fun  w => ∀ _ : Nat → Value,
            Does Try.prog (binOp .add 3 t13 (Go.Value.int Go.IntKind.i64 1)) w fun t60 w =>
            next2 t60 w
) w
          ) (
            R (Value.tuple #[]) w
          )
        ) a1 w
      )
    ) a2 a3 w
  ) (
    Does Try.prog (binOp .sub 3 a3 a2) w fun t79 w =>
    Does Try.prog (eqE .eql 3 (Go.Operand.tmp 79) (Go.Operand.const (Go.Value.int Go.IntKind.i64 1)) t79 (Go.Value.int Go.IntKind.i64 1)) w fun t80 w =>
    CondP t80 (
      Rounds 2 (fun next3 t14 t15 w => ∀ _ : Nat → Value,
        Does Try.prog (binOp .lss 3 t14 t15) w fun t85 w =>
        CondP t85 (
          Does Try.prog (binOp .add 3 t14 t15) w fun t88 w =>
          Does Try.prog (convert 3 112 t88) w fun t89 w =>
          Does Try.prog (binOp .shr 112 t89 (Go.Value.int Go.IntKind.u64 1)) w fun t90 w =>
          Does Try.prog (convert 112 3 t90) w fun t91 w =>
          DrawP Try.prog 220 (opsOf Try.f104 17) [0, 2, 4, 16] [a0, a2, a4, t91] [103] (fun t103 w => ∀ _ : Nat → Value,
          CondP t103 (
            Does Try.prog (binOp .add 3 t91 (Go.Value.int Go.IntKind.i64 1)) w fun t105 w =>
            next3 t105 t15 w
          ) (
            next3 t14 t91 w
          )
) w
        ) (
          Rounds 1 (fun next4 t17 w => ∀ _ : Nat → Value,
            Does Try.prog (binOp .gtr 3 t17 t14) w fun t110 w =>
            CondP t110 (
              DrawP Try.prog 220 (opsOf Try.f104 23) [0, 17] [a0, t17] [] (fun  w => ∀ _ : Nat → Value,
              Does Try.prog (binOp .sub 3 t17 (Go.Value.int Go.IntKind.i64 1)) w fun t112 w =>
              next4 t112 w
) w
            ) (
              R (Value.tuple #[]) w
            )
          ) a2 w
        )
      ) a1 a2 w
    ) (
      Does Try.prog (binOp .add 3 a1 a3) w fun t131 w =>
      Does Try.prog (convert 3 112 t131) w fun t132 w =>
      Does Try.prog (binOp .shr 112 t132 (Go.Value.int Go.IntKind.u64 1)) w fun t133 w =>
      Does Try.prog (convert 112 3 t133) w fun t134 w =>
      Does Try.prog (binOp .add 3 t134 a2) w fun t137 w =>
      JoinP 2 (fun j5 =>
        Does Try.prog (binOp .gtr 3 a2 t134) w fun t140 w =>
        CondP t140 (
          Does Try.prog (binOp .sub 3 t137 a3) w fun t143 w =>
          j5 t143 t134 w
        ) (
          j5 a1 a2 w
        )
      ) (fun t20 t21 w => ∀ _ : Nat → Value,
      Does Try.prog (binOp .sub 3 t137 (Go.Value.int Go.IntKind.i64 1)) w fun t148 w =>
      Rounds 2 (fun next6 t20 t21 w => ∀ _ : Nat → Value,
        Does Try.prog (binOp .lss 3 t20 t21) w fun t151 w =>
        CondP t151 (
          Does Try.prog (binOp .add 3 t20 t21) w fun t154 w =>
          Does Try.prog (convert 3 112 t154) w fun t155 w =>
          Does Try.prog (binOp .shr 112 t155 (Go.Value.int Go.IntKind.u64 1)) w fun t156 w =>
          Does Try.prog (convert 112 3 t156) w fun t157 w =>
          DrawP Try.prog 220 (opsOf Try.f104 35) [0, 4, 22, 23] [a0, a4, t148, t157] [171] (fun t171 w => ∀ _ : Nat → Value,
          CondP t171 (
            Does Try.prog (binOp .add 3 t157 (Go.Value.int Go.IntKind.i64 1)) w fun t173 w =>
            next6 t173 t21 w
          ) (
            next6 t20 t157 w
          )
) w
        ) (
          Does Try.prog (binOp .sub 3 t137 t20) w fun t177 w =>
          JoinP 0 (fun j7 =>
            Does Try.prog (binOp .lss 3 t20 a2) w fun t180 w =>
            JoinP 1 (fun j8 => GuardP t180 true (
              Does Try.prog (binOp .lss 3 a2 t177) w fun t184 w =>
              j8 t184 w
            ) (j8 undef w))
            (fun t184 w => ∀ _ : Nat → Value,
            PickP t180 t184 (Go.Value.bool false) fun t185 =>
            CondP t185 (
              Call Try.prog 116 #[a0, t20, a2, t177, a4] w fun t191 w =>
              j7  w
            ) (
              j7  w
            )
            )
          ) (fun  w => ∀ _ : Nat → Value,
          JoinP 0 (fun j9 =>
            Does Try.prog (binOp .lss 3 a1 t20) w fun t194 w =>
            JoinP 1 (fun j10 => GuardP t194 true (
              Does Try.prog (binOp .lss 3 t20 t134) w fun t198 w =>
              j10 t198 w
            ) (j10 undef w))
            (fun t198 w => ∀ _ : Nat → Value,
            PickP t194 t198 (Go.Value.bool false) fun t199 =>
            CondP t199 (
              Call Try.prog 104 #[a0, a1, t20, t134, a4] w fun t205 w =>
              j9  w
            ) (
              j9  w
            )
            )
          ) (fun  w => ∀ _ : Nat → Value,
          Does Try.prog (binOp .lss 3 t134 t177) w fun t208 w =>
          JoinP 1 (fun j11 => GuardP t208 true (
            Does Try.prog (binOp .lss 3 t177 a3) w fun t212 w =>
            j11 t212 w
          ) (j11 undef w))
          (fun t212 w => ∀ _ : Nat → Value,
          PickP t208 t212 (Go.Value.bool false) fun t213 =>
          CondP t213 (
            Call Try.prog 104 #[a0, t134, t177, a3, a4] w fun t219 w =>
            R (Value.tuple #[]) w
          ) (
            R (Value.tuple #[]) w
          )
          )
          )
          )
        )
      ) t20 t21 w
      )
    )
  )
theorem has104 : hasBody Try.prog 104 = true := by kernel_rfl
theorem vc104 {R : Value → World → Prop} {a0 a1 a2 a3 a4 : Value} {w : World} (h : V104 R a0 a1 a2 a3 a4 w) : Call Try.prog 104 #[a0, a1, a2, a3, a4] w R :=
  vc_of (args := [a0, a1, a2, a3, a4]) 220 ⟨lk [(3, [10, 11]), (9, [13]), (15, [14, 15]), (21, [17]), (33, [20, 21])], lkO [(32, [20, 21]), (41, []), (43, [])], lk [(5, [0, 1, 4, 12]), (11, [0, 13]), (17, [0, 2, 4, 16]), (23, [0, 17]), (35, [0, 4, 22, 23])], lk [(5, [50]), (11, []), (17, [103]), (23, []), (35, [171])]⟩ Try.func104 rfl Try.ntmps104 rfl has104 mixed (Eq.mp (by kernel_rfl) h)

/-- cmp.isNaN[string] -/
def V105 (R : Value → World → Prop) (a0 : Value) (w : World) : Prop :=
  Does Try.prog (eqE .neq 9 (Go.Operand.tmp 3) (Go.Operand.tmp 4) a0 a0) w fun t5 w =>
  R t5 w
theorem has105 : hasBody Try.prog 105 = true := by kernel_rfl
theorem vc105 {R : Value → World → Prop} {a0 : Value} {w : World} (h : V105 R a0 w) : Call Try.prog 105 #[a0] w R :=
  vc_of (args := [a0]) 6 ⟨lk [], lkO [], lk [], lk []⟩ Try.func105 rfl Try.ntmps105 rfl has105 mixed (Eq.mp (by kernel_rfl) h)

/-- marline/names.Name -/
def V106 (R : Value → World → Prop) (a0 : Value) (w : World) : Prop :=
  Does Try.prog (Builtin.len_ #[9] 3 #[a0]) w fun t5 w =>
  Rounds 1 (fun next1 t6 w => ∀ _ : Nat → Value,
    Does Try.prog (binOp .lss 3 t6 t5) w fun t7 w =>
    CondP t7 (
      Does Try.prog (Instr.index 9 a0 t6) w fun t11 w =>
      Does Try.prog (binOp .lss 5 t11 (Go.Value.int Go.IntKind.u8 33)) w fun t12 w =>
      JoinP 1 (fun j2 => GuardP t12 false (
        Does Try.prog (Instr.index 9 a0 t6) w fun t16 w =>
        Does Try.prog (binOp .gtr 5 t16 (Go.Value.int Go.IntKind.u8 126)) w fun t17 w =>
        j2 t17 w
      ) (j2 undef w))
      (fun t17 w => ∀ _ : Nat → Value,
      PickP t12 (Go.Value.bool true) t17 fun t18 =>
      JoinP 1 (fun j3 => GuardP t18 false (
        Does Try.prog (Instr.index 9 a0 t6) w fun t22 w =>
        Does Try.prog (eqE .eql 5 (Go.Operand.tmp 22) (Go.Operand.const (Go.Value.int Go.IntKind.u8 47)) t22 (Go.Value.int Go.IntKind.u8 47)) w fun t23 w =>
        j3 t23 w
      ) (j3 undef w))
      (fun t23 w => ∀ _ : Nat → Value,
      PickP t18 (Go.Value.bool true) t23 fun t24 =>
      CondP t24 (
        R (Go.Value.bool false) w
      ) (
        Does Try.prog (binOp .add 3 t6 (Go.Value.int Go.IntKind.i64 1)) w fun t25 w =>
        next1 t25 w
      )
      )
      )
    ) (
      Does Try.prog (eqE .neq 9 (Go.Operand.tmp 26) (Go.Operand.const (Go.Value.string { data := #[] })) a0 (Go.Value.string { data := #[] })) w fun t27 w =>
      JoinP 1 (fun j4 => GuardP t27 true (
        Does Try.prog (Builtin.len_ #[9] 3 #[a0]) w fun t30 w =>
        Does Try.prog (binOp .leq 3 t30 (Go.Value.int Go.IntKind.i64 64)) w fun t31 w =>
        j4 t31 w
      ) (j4 undef w))
      (fun t31 w => ∀ _ : Nat → Value,
      PickP t27 t31 (Go.Value.bool false) fun t32 =>
      JoinP 1 (fun j5 => GuardP t32 true (
        Does Try.prog (eqE .neq 9 (Go.Operand.tmp 34) (Go.Operand.const (Go.Value.string { data := #[46] })) a0 (Go.Value.string { data := #[46] })) w fun t35 w =>
        j5 t35 w
      ) (j5 undef w))
      (fun t35 w => ∀ _ : Nat → Value,
      PickP t32 t35 (Go.Value.bool false) fun t36 =>
      JoinP 1 (fun j6 => GuardP t36 true (
        Does Try.prog (eqE .neq 9 (Go.Operand.tmp 38) (Go.Operand.const (Go.Value.string { data := #[46, 46] })) a0 (Go.Value.string { data := #[46, 46] })) w fun t39 w =>
        j6 t39 w
      ) (j6 undef w))
      (fun t39 w => ∀ _ : Nat → Value,
      PickP t36 t39 (Go.Value.bool false) fun t40 =>
      R t40 w
      )
      )
      )
    )
  ) (Go.Value.int Go.IntKind.i64 0) w
theorem has106 : hasBody Try.prog 106 = true := by kernel_rfl
theorem vc106 {R : Value → World → Prop} {a0 : Value} {w : World} (h : V106 R a0 w) : Call Try.prog 106 #[a0] w R :=
  vc_of (args := [a0]) 41 ⟨lk [(2, [6])], lkO [], lk [], lk []⟩ Try.func106 rfl Try.ntmps106 rfl has106 mixed (Eq.mp (by kernel_rfl) h)

/-- marline/wire.put -/
def V107 (R : Value → World → Prop) (a0 : Value) (w : World) : Prop :=
  Rounds 2 (fun next1 n0 b3 w => ∀ _ : Nat → Value,
    Does Try.prog (binOp .gtr 3 n0 (Go.Value.int Go.IntKind.i64 127)) w fun t5 w =>
    CondP t5 (
      Does Try.prog (convert 3 5 n0) w fun t8 w =>
      Does Try.prog (binOp .or 5 t8 (Go.Value.int Go.IntKind.u8 128)) w fun t9 w =>
      Does Try.prog (Instr.buildSlice 34 1 #[(0, t9)]) w fun t10 w =>
      Does Try.prog (Builtin.append_ #[34, 34] 34 #[b3, t10]) w fun t11 w =>
      Does Try.prog (binOp .shr 3 n0 (Go.Value.int Go.IntKind.u64 7)) w fun t13 w =>
      next1 t13 t11 w
    ) (
      Does Try.prog (convert 3 5 n0) w fun t16 w =>
      Does Try.prog (Instr.buildSlice 34 1 #[(0, t16)]) w fun t17 w =>
      Does Try.prog (Builtin.append_ #[34, 34] 34 #[b3, t17]) w fun t18 w =>
      R t18 w
    )
  ) a0 (Go.Value.slice none 0 0) w
theorem has107 : hasBody Try.prog 107 = true := by kernel_rfl
theorem vc107 {R : Value → World → Prop} {a0 : Value} {w : World} (h : V107 R a0 w) : Call Try.prog 107 #[a0] w R :=
  vc_of (args := [a0]) 19 ⟨lk [(2, [0, 3])], lkO [], lk [], lk []⟩ Try.func107 rfl Try.ntmps107 rfl has107 mixed (Eq.mp (by kernel_rfl) h)

/-- strings.IndexByte -/
def V108 (R : Value → World → Prop) (a0 a1 : Value) (w : World) : Prop :=
  Call Try.prog 117 #[a0, a1] w fun t7 w =>
  R t7 w
theorem has108 : hasBody Try.prog 108 = true := by kernel_rfl
theorem vc108 {R : Value → World → Prop} {a0 a1 : Value} {w : World} (h : V108 R a0 a1 w) : Call Try.prog 108 #[a0, a1] w R :=
  vc_of (args := [a0, a1]) 8 ⟨lk [], lkO [], lk [], lk []⟩ Try.func108 rfl Try.ntmps108 rfl has108 mixed (Eq.mp (by kernel_rfl) h)

/-- bytes.Clone -/
def V109 (R : Value → World → Prop) (a0 : Value) (w : World) : Prop :=
  Does Try.prog (eqE .eql 34 (Go.Operand.tmp 3) (Go.Operand.const (Go.Value.slice none 0 0)) a0 (Go.Value.slice none 0 0)) w fun t4 w =>
  CondP t4 (
    R (Go.Value.slice none 0 0) w
  ) (
    Does Try.prog (Instr.buildSlice 34 0 #[]) w fun t5 w =>
    Does Try.prog (Builtin.append_ #[34, 34] 34 #[t5, a0]) w fun t7 w =>
    R t7 w
  )
theorem has109 : hasBody Try.prog 109 = true := by kernel_rfl
theorem vc109 {R : Value → World → Prop} {a0 : Value} {w : World} (h : V109 R a0 w) : Call Try.prog 109 #[a0] w R :=
  vc_of (args := [a0]) 8 ⟨lk [], lkO [], lk [], lk []⟩ Try.func109 rfl Try.ntmps109 rfl has109 mixed (Eq.mp (by kernel_rfl) h)

/-- (*marline/obj.source).number -/
def V110 (R : Value → World → Prop) (a0 : Value) (w : World) : Prop :=
  NilCheckP a0 fun t8 =>
  Does Try.prog (Instr.fieldAt 131 t8 0) w fun t9 w =>
  Does Try.prog (Instr.loadAt 34 t9) w fun t10 w =>
  Call Try.prog 118 #[t10, (Go.Value.int Go.IntKind.i64 0)] w fun t11 w =>
  Does Try.prog (Instr.extract t11 0) w fun t12 w =>
  Does Try.prog (Instr.extract t11 1) w fun t13 w =>
  Does Try.prog (Instr.extract t11 2) w fun t14 w =>
  Does Try.prog (eqE .neq 29 (Go.Operand.tmp 15) (Go.Operand.const (Go.Value.int Go.IntKind.i64 0)) t14 (Go.Value.int Go.IntKind.i64 0)) w fun t16 w =>
  CondP t16 (
    NilCheckP a0 fun t18 =>
    Does Try.prog (Instr.fieldAt 131 t18 1) w fun t19 w =>
    Does Try.prog (Instr.storeAt 4 t19 (Go.Value.bool true)) w fun _ w =>
    R (Go.Value.int Go.IntKind.i64 0) w
  ) (
    Call Try.prog 112 #[a0, t13] w fun t22 w =>
    R t12 w
  )
theorem has110 : hasBody Try.prog 110 = true := by kernel_rfl
theorem vc110 {R : Value → World → Prop} {a0 : Value} {w : World} (h : V110 R a0 w) : Call Try.prog 110 #[a0] w R :=
  vc_of (args := [a0]) 24 ⟨lk [], lkO [], lk [], lk []⟩ Try.func110 rfl Try.ntmps110 rfl has110 mixed (Eq.mp (by kernel_rfl) h)

/-- (*marline/obj.source).one -/
def V111 (R : Value → World → Prop) (a0 : Value) (w : World) : Prop :=
  Call Try.prog 112 #[a0, (Go.Value.int Go.IntKind.i64 1)] w fun t5 w =>
  Does Try.prog (Builtin.len_ #[34] 3 #[t5]) w fun t7 w =>
  Does Try.prog (eqE .eql 3 (Go.Operand.tmp 7) (Go.Operand.const (Go.Value.int Go.IntKind.i64 0)) t7 (Go.Value.int Go.IntKind.i64 0)) w fun t8 w =>
  CondP t8 (
    R (Go.Value.int Go.IntKind.i64 0) w
  ) (
    Does Try.prog (Instr.indexAt 34 t5 (Go.Value.int Go.IntKind.i64 0)) w fun t10 w =>
    Does Try.prog (Instr.loadAt 5 t10) w fun t11 w =>
    Does Try.prog (convert 5 3 t11) w fun t12 w =>
    R t12 w
  )
theorem has111 : hasBody Try.prog 111 = true := by kernel_rfl
theorem vc111 {R : Value → World → Prop} {a0 : Value} {w : World} (h : V111 R a0 w) : Call Try.prog 111 #[a0] w R :=
  vc_of (args := [a0]) 13 ⟨lk [], lkO [], lk [], lk []⟩ Try.func111 rfl Try.ntmps111 rfl has111 mixed (Eq.mp (by kernel_rfl) h)

/-- (*marline/obj.source).take -/
def V112 (R : Value → World → Prop) (a0 a1 : Value) (w : World) : Prop :=
  NilCheckP a0 fun t7 =>
  Does Try.prog (Instr.fieldAt 131 t7 1) w fun t8 w =>
  Does Try.prog (Instr.loadAt 4 t8) w fun t9 w =>
  JoinP 1 (fun j1 => GuardP t9 false (
    NilCheckP a0 fun t13 =>
    Does Try.prog (Instr.fieldAt 131 t13 0) w fun t14 w =>
    Does Try.prog (Instr.loadAt 34 t14) w fun t15 w =>
    Does Try.prog (Builtin.len_ #[34] 3 #[t15]) w fun t16 w =>
    Does Try.prog (binOp .gtr 3 a1 t16) w fun t17 w =>
    j1 t17 w
  ) (j1 undef w))
  (fun t17 w => ∀ _ : Nat → Value,
  PickP t9 (Go.Value.bool true) t17 fun t18 =>
  CondP t18 (
    NilCheckP a0 fun t20 =>
    Does Try.prog (Instr.fieldAt 131 t20 1) w fun t21 w =>
    Does Try.prog (Instr.storeAt 4 t21 (Go.Value.bool true)) w fun _ w =>
    R (Go.Value.slice none 0 0) w
  ) (
    NilCheckP a0 fun t23 =>
    Does Try.prog (Instr.fieldAt 131 t23 0) w fun t24 w =>
    Does Try.prog (Instr.loadAt 34 t24) w fun t25 w =>
    Does Try.prog (Instr.sliceAt 34 t25 none (some a1) none) w fun t27 w =>
    NilCheckP a0 fun t30 =>
    Does Try.prog (Instr.fieldAt 131 t30 0) w fun t31 w =>
    Does Try.prog (Instr.loadAt 34 t31) w fun t32 w =>
    Does Try.prog (Instr.sliceAt 34 t32 (some a1) none none) w fun t34 w =>
    NilCheckP a0 fun t35 =>
    Does Try.prog (Instr.fieldAt 131 t35 0) w fun t36 w =>
    Does Try.prog (Instr.storeAt 34 t36 t34) w fun _ w =>
    R t27 w
  )
  )
theorem has112 : hasBody Try.prog 112 = true := by kernel_rfl
theorem vc112 {R : Value → World → Prop} {a0 a1 : Value} {w : World} (h : V112 R a0 a1 w) : Call Try.prog 112 #[a0, a1] w R :=
  vc_of (args := [a0, a1]) 38 ⟨lk [], lkO [], lk [], lk []⟩ Try.func112 rfl Try.ntmps112 rfl has112 mixed (Eq.mp (by kernel_rfl) h)

/-- (*marline/obj.source).hash -/
def V113 (R : Value → World → Prop) (a0 : Value) (w : World) : Prop :=
  Call Try.prog 112 #[a0, (Go.Value.int Go.IntKind.i64 32)] w fun t4 w =>
  Call Try.prog 119 #[t4] w fun t5 w =>
  R t5 w
theorem has113 : hasBody Try.prog 113 = true := by kernel_rfl
theorem vc113 {R : Value → World → Prop} {a0 : Value} {w : World} (h : V113 R a0 w) : Call Try.prog 113 #[a0] w R :=
  vc_of (args := [a0]) 6 ⟨lk [], lkO [], lk [], lk []⟩ Try.func113 rfl Try.ntmps113 rfl has113 mixed (Eq.mp (by kernel_rfl) h)

/-- marline/marref1.Name -/
def V114 (R : Value → World → Prop) (a0 : Value) (w : World) : Prop :=
  Does Try.prog (Builtin.len_ #[9] 3 #[a0]) w fun t5 w =>
  Does Try.prog (binOp .lss 3 t5 (Go.Value.int Go.IntKind.i64 1)) w fun t6 w =>
  JoinP 1 (fun j1 => GuardP t6 false (
    Does Try.prog (Builtin.len_ #[9] 3 #[a0]) w fun t9 w =>
    Does Try.prog (binOp .gtr 3 t9 (Go.Value.int Go.IntKind.i64 64)) w fun t10 w =>
    j1 t10 w
  ) (j1 undef w))
  (fun t10 w => ∀ _ : Nat → Value,
  PickP t6 (Go.Value.bool true) t10 fun t11 =>
  JoinP 1 (fun j2 => GuardP t11 false (
    Does Try.prog (eqE .eql 9 (Go.Operand.tmp 13) (Go.Operand.const (Go.Value.string { data := #[46] })) a0 (Go.Value.string { data := #[46] })) w fun t14 w =>
    j2 t14 w
  ) (j2 undef w))
  (fun t14 w => ∀ _ : Nat → Value,
  PickP t11 (Go.Value.bool true) t14 fun t15 =>
  JoinP 1 (fun j3 => GuardP t15 false (
    Does Try.prog (eqE .eql 9 (Go.Operand.tmp 17) (Go.Operand.const (Go.Value.string { data := #[46, 46] })) a0 (Go.Value.string { data := #[46, 46] })) w fun t18 w =>
    j3 t18 w
  ) (j3 undef w))
  (fun t18 w => ∀ _ : Nat → Value,
  PickP t15 (Go.Value.bool true) t18 fun t19 =>
  CondP t19 (
    R (Go.Value.bool false) w
  ) (
    Rounds 1 (fun next4 i3 w => ∀ _ : Nat → Value,
      Does Try.prog (Builtin.len_ #[9] 3 #[a0]) w fun t22 w =>
      Does Try.prog (binOp .lss 3 i3 t22) w fun t23 w =>
      CondP t23 (
        Does Try.prog (Instr.index 9 a0 i3) w fun t28 w =>
        Does Try.prog (binOp .lss 5 t28 (Go.Value.int Go.IntKind.u8 33)) w fun t29 w =>
        JoinP 1 (fun j5 => GuardP t29 false (
          Does Try.prog (Instr.index 9 a0 i3) w fun t33 w =>
          Does Try.prog (binOp .gtr 5 t33 (Go.Value.int Go.IntKind.u8 126)) w fun t34 w =>
          j5 t34 w
        ) (j5 undef w))
        (fun t34 w => ∀ _ : Nat → Value,
        PickP t29 (Go.Value.bool true) t34 fun t35 =>
        JoinP 1 (fun j6 => GuardP t35 false (
          Does Try.prog (Instr.index 9 a0 i3) w fun t39 w =>
          Does Try.prog (eqE .eql 5 (Go.Operand.tmp 39) (Go.Operand.const (Go.Value.int Go.IntKind.u8 47)) t39 (Go.Value.int Go.IntKind.u8 47)) w fun t40 w =>
          j6 t40 w
        ) (j6 undef w))
        (fun t40 w => ∀ _ : Nat → Value,
        PickP t35 (Go.Value.bool true) t40 fun t41 =>
        CondP t41 (
          R (Go.Value.bool false) w
        ) (
          Does Try.prog (binOp .add 3 i3 (Go.Value.int Go.IntKind.i64 1)) w fun t25 w =>
          next4 t25 w
        )
        )
        )
      ) (
        R (Go.Value.bool true) w
      )
    ) (Go.Value.int Go.IntKind.i64 0) w
  )
  )
  )
  )
theorem has114 : hasBody Try.prog 114 = true := by kernel_rfl
theorem vc114 {R : Value → World → Prop} {a0 : Value} {w : World} (h : V114 R a0 w) : Call Try.prog 114 #[a0] w R :=
  vc_of (args := [a0]) 42 ⟨lk [(4, [3])], lkO [], lk [], lk []⟩ Try.func114 rfl Try.ntmps114 rfl has114 mixed (Eq.mp (by kernel_rfl) h)

/-- marline/marref1.digit -/
def V115 (R : Value → World → Prop) (a0 : Value) (w : World) : Prop :=
  Does Try.prog (binOp .geq 5 a0 (Go.Value.int Go.IntKind.u8 48)) w fun t5 w =>
  JoinP 1 (fun j1 => GuardP t5 true (
    Does Try.prog (binOp .leq 5 a0 (Go.Value.int Go.IntKind.u8 57)) w fun t8 w =>
    j1 t8 w
  ) (j1 undef w))
  (fun t8 w => ∀ _ : Nat → Value,
  PickP t5 t8 (Go.Value.bool false) fun t9 =>
  CondP t9 (
    Does Try.prog (binOp .sub 5 a0 (Go.Value.int Go.IntKind.u8 48)) w fun t11 w =>
    Does Try.prog (convert 5 3 t11) w fun t12 w =>
    R t12 w
  ) (
    Does Try.prog (binOp .geq 5 a0 (Go.Value.int Go.IntKind.u8 97)) w fun t15 w =>
    JoinP 1 (fun j2 => GuardP t15 true (
      Does Try.prog (binOp .leq 5 a0 (Go.Value.int Go.IntKind.u8 102)) w fun t18 w =>
      j2 t18 w
    ) (j2 undef w))
    (fun t18 w => ∀ _ : Nat → Value,
    PickP t15 t18 (Go.Value.bool false) fun t19 =>
    CondP t19 (
      Does Try.prog (binOp .sub 5 a0 (Go.Value.int Go.IntKind.u8 97)) w fun t21 w =>
      Does Try.prog (convert 5 3 t21) w fun t22 w =>
      Does Try.prog (binOp .add 3 t22 (Go.Value.int Go.IntKind.i64 10)) w fun t23 w =>
      R t23 w
    ) (
      R (Go.Value.int Go.IntKind.i64 (-1)) w
    )
    )
  )
  )
theorem has115 : hasBody Try.prog 115 = true := by kernel_rfl
theorem vc115 {R : Value → World → Prop} {a0 : Value} {w : World} (h : V115 R a0 w) : Call Try.prog 115 #[a0] w R :=
  vc_of (args := [a0]) 24 ⟨lk [], lkO [], lk [], lk []⟩ Try.func115 rfl Try.ntmps115 rfl has115 mixed (Eq.mp (by kernel_rfl) h)

/-- slices.rotateCmpFunc[string] -/
def V116 (R : Value → World → Prop) (a0 a1 a2 a3 a4 : Value) (w : World) : Prop :=
  Does Try.prog (binOp .sub 3 a2 a1) w fun t14 w =>
  Does Try.prog (binOp .sub 3 a3 a2) w fun t17 w =>
  Rounds 2 (fun next1 i10 j11 w => ∀ _ : Nat → Value,
    Does Try.prog (eqE .neq 3 (Go.Operand.tmp 18) (Go.Operand.tmp 19) i10 j11) w fun t20 w =>
    CondP t20 (
      Does Try.prog (binOp .gtr 3 i10 j11) w fun t23 w =>
      CondP t23 (
        Does Try.prog (binOp .sub 3 a2 i10) w fun t27 w =>
        Call Try.prog 120 #[a0, t27, a2, j11, a4] w fun t31 w =>
        Does Try.prog (binOp .sub 3 i10 j11) w fun t34 w =>
        next1 t34 j11 w
      ) (
        Does Try.prog (binOp .sub 3 a2 i10) w fun t38 w =>
        Does Try.prog (binOp .add 3 a2 j11) w fun t41 w =>
        Does Try.prog (binOp .sub 3 t41 i10) w fun t43 w =>
        Call Try.prog 120 #[a0, t38, t43, i10, a4] w fun t46 w =>
        Does Try.prog (binOp .sub 3 j11 i10) w fun t49 w =>
        next1 i10 t49 w
      )
    ) (
      Does Try.prog (binOp .sub 3 a2 i10) w fun t53 w =>
      Call Try.prog 120 #[a0, t53, a2, i10, a4] w fun t57 w =>
      R (Value.tuple #[]) w
    )
  ) t14 t17 w
theorem has116 : hasBody Try.prog 116 = true := by kernel_rfl
theorem vc116 {R : Value → World → Prop} {a0 a1 a2 a3 a4 : Value} {w : World} (h : V116 R a0 a1 a2 a3 a4 w) : Call Try.prog 116 #[a0, a1, a2, a3, a4] w R :=
  vc_of (args := [a0, a1, a2, a3, a4]) 58 ⟨lk [(2, [10, 11])], lkO [], lk [], lk []⟩ Try.func116 rfl Try.ntmps116 rfl has116 mixed (Eq.mp (by kernel_rfl) h)

/-- internal/stringslite.IndexByte -/
def V117 (R : Value → World → Prop) (a0 a1 : Value) (w : World) : Prop :=
  Call Try.prog 121 #[a0, a1] w fun t7 w =>
  R t7 w
theorem has117 : hasBody Try.prog 117 = true := by kernel_rfl
theorem vc117 {R : Value → World → Prop} {a0 a1 : Value} {w : World} (h : V117 R a0 a1 w) : Call Try.prog 117 #[a0, a1] w R :=
  vc_of (args := [a0, a1]) 8 ⟨lk [], lkO [], lk [], lk []⟩ Try.func117 rfl Try.ntmps117 rfl has117 mixed (Eq.mp (by kernel_rfl) h)

/-- marline/wire.Get -/
def V118 (R : Value → World → Prop) (a0 a1 : Value) (w : World) : Prop :=
  Does Try.prog (binOp .lss 3 a1 (Go.Value.int Go.IntKind.i64 0)) w fun t13 w =>
  JoinP 1 (fun j1 => GuardP t13 false (
    Does Try.prog (Builtin.len_ #[34] 3 #[a0]) w fun t17 w =>
    Does Try.prog (binOp .gtr 3 a1 t17) w fun t18 w =>
    j1 t18 w
  ) (j1 undef w))
  (fun t18 w => ∀ _ : Nat → Value,
  PickP t13 (Go.Value.bool true) t18 fun t19 =>
  CondP t19 (
    R (Value.tuple #[(Go.Value.int Go.IntKind.i64 0), (Go.Value.int Go.IntKind.i64 0), (Go.Value.int Go.IntKind.i64 1)]) w
  ) (
    Rounds 1 (fun next2 t7 w => ∀ _ : Nat → Value,
      Does Try.prog (Builtin.len_ #[34] 3 #[a0]) w fun t23 w =>
      Does Try.prog (binOp .lss 3 t7 t23) w fun t24 w =>
      JoinP 1 (fun j3 => GuardP t24 true (
        Does Try.prog (Instr.indexAt 34 a0 t7) w fun t28 w =>
        Does Try.prog (Instr.loadAt 5 t28) w fun t29 w =>
        Does Try.prog (binOp .and 5 t29 (Go.Value.int Go.IntKind.u8 128)) w fun t30 w =>
        Does Try.prog (eqE .neq 5 (Go.Operand.tmp 30) (Go.Operand.const (Go.Value.int Go.IntKind.u8 0)) t30 (Go.Value.int Go.IntKind.u8 0)) w fun t31 w =>
        j3 t31 w
      ) (j3 undef w))
      (fun t31 w => ∀ _ : Nat → Value,
      PickP t24 t31 (Go.Value.bool false) fun t32 =>
      CondP t32 (
        Does Try.prog (binOp .add 3 t7 (Go.Value.int Go.IntKind.i64 1)) w fun t34 w =>
        next2 t34 w
      ) (
        Does Try.prog (Builtin.len_ #[34] 3 #[a0]) w fun t37 w =>
        Does Try.prog (eqE .eql 3 (Go.Operand.tmp 35) (Go.Operand.tmp 37) t7 t37) w fun t38 w =>
        CondP t38 (
          R (Value.tuple #[(Go.Value.int Go.IntKind.i64 0), (Go.Value.int Go.IntKind.i64 0), (Go.Value.int Go.IntKind.i64 2)]) w
        ) (
          Does Try.prog (binOp .add 3 t7 (Go.Value.int Go.IntKind.i64 1)) w fun t40 w =>
          Does Try.prog (Instr.sliceAt 34 a0 (some a1) (some t40) none) w fun t44 w =>
          Does Try.prog (Builtin.len_ #[34] 3 #[t44]) w fun t46 w =>
          Does Try.prog (binOp .gtr 3 t46 (Go.Value.int Go.IntKind.i64 9)) w fun t47 w =>
          CondP t47 (
            R (Value.tuple #[(Go.Value.int Go.IntKind.i64 0), (Go.Value.int Go.IntKind.i64 0), (Go.Value.int Go.IntKind.i64 4)]) w
          ) (
            Does Try.prog (Builtin.len_ #[34] 3 #[t44]) w fun t49 w =>
            Rounds 2 (fun next4 t9 t50 w => ∀ _ : Nat → Value,
              Does Try.prog (binOp .lss 3 t50 t49) w fun t51 w =>
              CondP t51 (
                Does Try.prog (Instr.indexAt 34 t44 t50) w fun t53 w =>
                Does Try.prog (Instr.loadAt 5 t53) w fun t54 w =>
                Does Try.prog (binOp .and 5 t54 (Go.Value.int Go.IntKind.u8 127)) w fun t57 w =>
                Does Try.prog (convert 5 3 t57) w fun t58 w =>
                Does Try.prog (binOp .mul 3 (Go.Value.int Go.IntKind.i64 7) t50) w fun t60 w =>
                Does Try.prog (binOp .shl 3 t58 t60) w fun t61 w =>
                Does Try.prog (binOp .or 3 t9 t61) w fun t62 w =>
                Does Try.prog (binOp .add 3 t50 (Go.Value.int Go.IntKind.i64 1)) w fun t63 w =>
                next4 t62 t63 w
              ) (
                Does Try.prog (binOp .lss 3 t9 (Go.Value.int Go.IntKind.i64 0)) w fun t65 w =>
                JoinP 1 (fun j5 => GuardP t65 false (
                  Does Try.prog (binOp .gtr 3 t9 (Go.Value.int Go.IntKind.i64 72057594037927936)) w fun t68 w =>
                  j5 t68 w
                ) (j5 undef w))
                (fun t68 w => ∀ _ : Nat → Value,
                PickP t65 (Go.Value.bool true) t68 fun t69 =>
                JoinP 1 (fun j6 => GuardP t69 false (
                  Call Try.prog 107 #[t9] w fun t72 w =>
                  Call Try.prog 122 #[t72, t44] w fun t74 w =>
                  Does Try.prog (Op.unary Go.UnOp.not t74) w fun t75 w =>
                  j6 t75 w
                ) (j6 undef w))
                (fun t75 w => ∀ _ : Nat → Value,
                PickP t69 (Go.Value.bool true) t75 fun t76 =>
                CondP t76 (
                  R (Value.tuple #[(Go.Value.int Go.IntKind.i64 0), (Go.Value.int Go.IntKind.i64 0), (Go.Value.int Go.IntKind.i64 4)]) w
                ) (
                  R (Value.tuple #[t9, t40, (Go.Value.int Go.IntKind.i64 0)]) w
                )
                )
                )
              )
            ) (Go.Value.int Go.IntKind.i64 0) (Go.Value.int Go.IntKind.i64 0) w
          )
        )
      )
      )
    ) a1 w
  )
  )
theorem has118 : hasBody Try.prog 118 = true := by kernel_rfl
theorem vc118 {R : Value → World → Prop} {a0 a1 : Value} {w : World} (h : V118 R a0 a1 w) : Call Try.prog 118 #[a0, a1] w R :=
  vc_of (args := [a0, a1]) 79 ⟨lk [(4, [7]), (14, [9, 50])], lkO [], lk [], lk []⟩ Try.func118 rfl Try.ntmps118 rfl has118 mixed (Eq.mp (by kernel_rfl) h)

/-- marline/sha.Hex -/
def V119 (R : Value → World → Prop) (a0 : Value) (w : World) : Prop :=
  Does Try.prog (Builtin.len_ #[34] 3 #[a0]) w fun t7 w =>
  Rounds 2 (fun next1 out3 t8 w => ∀ _ : Nat → Value,
    Does Try.prog (binOp .lss 3 t8 t7) w fun t9 w =>
    CondP t9 (
      Does Try.prog (Instr.indexAt 34 a0 t8) w fun t10 w =>
      Does Try.prog (Instr.loadAt 5 t10) w fun t11 w =>
      DrawP Try.prog 24 (opsOf Try.f119 5) [3, 5] [out3, t11] [3] (fun out3 w => ∀ _ : Nat → Value,
      Does Try.prog (binOp .add 3 t8 (Go.Value.int Go.IntKind.i64 1)) w fun t21 w =>
      next1 out3 t21 w
) w
    ) (
      Does Try.prog (convert 34 9 out3) w fun t23 w =>
      R t23 w
    )
  ) (Go.Value.slice none 0 0) (Go.Value.int Go.IntKind.i64 0) w
theorem has119 : hasBody Try.prog 119 = true := by kernel_rfl
theorem vc119 {R : Value → World → Prop} {a0 : Value} {w : World} (h : V119 R a0 w) : Call Try.prog 119 #[a0] w R :=
  vc_of (args := [a0]) 24 ⟨lk [(3, [3, 8])], lkO [], lk [(5, [3, 5])], lk [(5, [3])]⟩ Try.func119 rfl Try.ntmps119 rfl has119 mixed (Eq.mp (by kernel_rfl) h)

/-- slices.swapRangeCmpFunc[string] -/
def V120 (R : Value → World → Prop) (a0 a1 a2 a3 a4 : Value) (w : World) : Prop :=
  Rounds 1 (fun next1 i10 w => ∀ _ : Nat → Value,
    Does Try.prog (binOp .lss 3 i10 a3) w fun t13 w =>
    CondP t13 (
      DrawP Try.prog 38 (opsOf Try.f120 3) [0, 1, 2, 10] [a0, a1, a2, i10] [] (fun  w => ∀ _ : Nat → Value,
      Does Try.prog (binOp .add 3 i10 (Go.Value.int Go.IntKind.i64 1)) w fun t15 w =>
      next1 t15 w
) w
    ) (
      R (Value.tuple #[]) w
    )
  ) (Go.Value.int Go.IntKind.i64 0) w
theorem has120 : hasBody Try.prog 120 = true := by kernel_rfl
theorem vc120 {R : Value → World → Prop} {a0 a1 a2 a3 a4 : Value} {w : World} (h : V120 R a0 a1 a2 a3 a4 w) : Call Try.prog 120 #[a0, a1, a2, a3, a4] w R :=
  vc_of (args := [a0, a1, a2, a3, a4]) 38 ⟨lk [(1, [10])], lkO [], lk [(3, [0, 1, 2, 10])], lk [(3, [])]⟩ Try.func120 rfl Try.ntmps120 rfl has120 mixed (Eq.mp (by kernel_rfl) h)

/-- slices.Equal[[]byte,byte] -/
def V122 (R : Value → World → Prop) (a0 a1 : Value) (w : World) : Prop :=
  Does Try.prog (Builtin.len_ #[34] 3 #[a0]) w fun t7 w =>
  Does Try.prog (Builtin.len_ #[34] 3 #[a1]) w fun t9 w =>
  Does Try.prog (eqE .neq 3 (Go.Operand.tmp 7) (Go.Operand.tmp 9) t7 t9) w fun t10 w =>
  CondP t10 (
    R (Go.Value.bool false) w
  ) (
    Does Try.prog (Builtin.len_ #[34] 3 #[a0]) w fun t12 w =>
    Rounds 1 (fun next1 t13 w => ∀ _ : Nat → Value,
      Does Try.prog (binOp .lss 3 t13 t12) w fun t14 w =>
      CondP t14 (
        DrawP Try.prog 26 (opsOf Try.f122 6) [0, 1, 5] [a0, a1, t13] [24] (fun t24 w => ∀ _ : Nat → Value,
        CondP t24 (
          R (Go.Value.bool false) w
        ) (
          Does Try.prog (binOp .add 3 t13 (Go.Value.int Go.IntKind.i64 1)) w fun t25 w =>
          next1 t25 w
        )
) w
      ) (
        R (Go.Value.bool true) w
      )
    ) (Go.Value.int Go.IntKind.i64 0) w
  )
theorem has122 : hasBody Try.prog 122 = true := by kernel_rfl
theorem vc122 {R : Value → World → Prop} {a0 a1 : Value} {w : World} (h : V122 R a0 a1 w) : Call Try.prog 122 #[a0, a1] w R :=
  vc_of (args := [a0, a1]) 26 ⟨lk [(4, [13])], lkO [], lk [(6, [0, 1, 5])], lk [(6, [24])]⟩ Try.func122 rfl Try.ntmps122 rfl has122 mixed (Eq.mp (by kernel_rfl) h)

end Go.Proofs.Ytcncgkkilgmphaa
