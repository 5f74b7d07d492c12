import Derived.Test.YtcncgkkilgmphaaDs
set_option linter.unusedVariables false
set_option maxRecDepth 100000
namespace Go.Proofs.Ytcncgkkilgmphaa
open Go
theorem q91_7 {is0 ii5 : Value} {w : World} {J : VF 2} (C : World → Prop) (hC : C { w with drawn := w.drawn + 1 })
    (h : ∀ _ : Nat → Value,
    Quiet Try.prog C (Instr.index 9 is0 ii5) w fun t20 w =>
    QCall Try.prog C 108 #[(Go.Value.string { data := #[48, 49, 50, 51, 52, 53, 54, 55, 56, 57, 97, 98, 99, 100, 101, 102] }), t20] w fun t21 w =>
    Quiet Try.prog C (binOp .add 3 ii5 (Go.Value.int Go.IntKind.i64 1)) w fun t24 w =>
    Quiet Try.prog C (Instr.index 9 is0 t24) w fun t25 w =>
    QCall Try.prog C 108 #[(Go.Value.string { data := #[48, 49, 50, 51, 52, 53, 54, 55, 56, 57, 97, 98, 99, 100, 101, 102] }), t25] w fun t26 w =>
    ∀ W, C W → J t21 t26 W
    ) : DrawP Try.prog 42 (opsOf Try.f91 7) [0, 5] [is0, ii5] [6, 7] J w :=
  draw_quiet C (by kernel_rfl) hC (Eq.mp (by kernel_rfl) h)

theorem q102_7 {is0 ii5 : Value} {w : World} {J : VF 2} (C : World → Prop) (hC : C { w with drawn := w.drawn + 1 })
    (h : ∀ _ : Nat → Value,
    Quiet Try.prog C (Instr.index 9 is0 ii5) w fun t20 w =>
    QCall Try.prog C 115 #[t20] w fun t21 w =>
    Quiet Try.prog C (binOp .add 3 ii5 (Go.Value.int Go.IntKind.i64 1)) w fun t24 w =>
    Quiet Try.prog C (Instr.index 9 is0 t24) w fun t25 w =>
    QCall Try.prog C 115 #[t25] w fun t26 w =>
    ∀ W, C W → J t21 t26 W
    ) : DrawP Try.prog 42 (opsOf Try.f102 7) [0, 5] [is0, ii5] [6, 7] J w :=
  draw_quiet C (by kernel_rfl) hC (Eq.mp (by kernel_rfl) h)

theorem q122_6 {is10 is21 ii5 : Value} {w : World} {J : VF 1} (C : World → Prop) (hC : C { w with drawn := w.drawn + 1 })
    (h : ∀ _ : Nat → Value,
    Quiet Try.prog C (Instr.indexAt 34 is10 ii5) w fun t18 w =>
    Quiet Try.prog C (Instr.loadAt 5 t18) w fun t19 w =>
    Quiet Try.prog C (Instr.indexAt 34 is21 ii5) w fun t22 w =>
    Quiet Try.prog C (Instr.loadAt 5 t22) w fun t23 w =>
    Quiet Try.prog C (eqE .neq 5 (Go.Operand.tmp 19) (Go.Operand.tmp 23) t19 t23) w fun t24 w =>
    ∀ W, C W → J t24 W
    ) : DrawP Try.prog 26 (opsOf Try.f122 6) [0, 1, 5] [is10, is21, ii5] [24] J w :=
  draw_quiet C (by kernel_rfl) hC (Eq.mp (by kernel_rfl) h)

theorem q12_4 {il0 ii3 : Value} {w : World} {J : VF 1} (C : World → Prop) (hC : C { w with drawn := w.drawn + 1 })
    (h : ∀ _ : Nat → Value,
    Quiet Try.prog C (Instr.indexAt 23 il0 ii3) w fun t12 w =>
    Quiet Try.prog C (Instr.loadAt 9 t12) w fun t13 w =>
    Quiet Try.prog C (binOp .sub 3 ii3 (Go.Value.int Go.IntKind.i64 1)) w fun t16 w =>
    Quiet Try.prog C (Instr.indexAt 23 il0 t16) w fun t17 w =>
    Quiet Try.prog C (Instr.loadAt 9 t17) w fun t18 w =>
    Quiet Try.prog C (binOp .leq 9 t13 t18) w fun t19 w =>
    ∀ W, C W → J t19 W
    ) : DrawP Try.prog 20 (opsOf Try.f12 4) [0, 3] [il0, ii3] [19] J w :=
  draw_quiet C (by kernel_rfl) hC (Eq.mp (by kernel_rfl) h)

theorem q86_4 {il0 ii3 ix4 : Value} {w : World} {J : VF 1} (C : World → Prop) (hC : C { w with drawn := w.drawn + 1 })
    (h : ∀ _ : Nat → Value,
    Quiet Try.prog C (Instr.fieldAt 106 ix4 0) w fun t12 w =>
    Quiet Try.prog C (Instr.loadAt 3 t12) w fun t13 w =>
    Quiet Try.prog C (binOp .lss 3 t13 (Go.Value.int Go.IntKind.i64 1)) w fun t14 w =>
    JoinP 1 (fun j1 => GuardP t14 false (
      Quiet Try.prog C (Instr.fieldAt 106 ix4 0) w fun t16 w =>
      Quiet Try.prog C (Instr.loadAt 3 t16) w fun t17 w =>
      Quiet Try.prog C (binOp .gtr 3 t17 (Go.Value.int Go.IntKind.i64 4)) w fun t18 w =>
      j1 t18 w
    ) (j1 undef w))
    (fun t18 w => ∀ _ : Nat → Value,
    PickP t14 (Go.Value.bool true) t18 fun t19 =>
    JoinP 1 (fun j2 => GuardP t19 false (
      Quiet Try.prog C (Instr.fieldAt 106 ix4 1) w fun t21 w =>
      Quiet Try.prog C (Instr.loadAt 9 t21) w fun t22 w =>
      QCall Try.prog C 106 #[t22] w fun t23 w =>
      Quiet Try.prog C (Op.unary Go.UnOp.not t23) w fun t24 w =>
      j2 t24 w
    ) (j2 undef w))
    (fun t24 w => ∀ _ : Nat → Value,
    PickP t19 (Go.Value.bool true) t24 fun t25 =>
    JoinP 1 (fun j3 => GuardP t25 false (
      Quiet Try.prog C (Instr.fieldAt 106 ix4 2) w fun t27 w =>
      Quiet Try.prog C (Instr.loadAt 9 t27) w fun t28 w =>
      QCall Try.prog C 87 #[t28] w fun t29 w =>
      Quiet Try.prog C (Op.unary Go.UnOp.not t29) w fun t30 w =>
      j3 t30 w
    ) (j3 undef w))
    (fun t30 w => ∀ _ : Nat → Value,
    PickP t25 (Go.Value.bool true) t30 fun t31 =>
    JoinP 1 (fun j4 => GuardP t31 false (
      Quiet Try.prog C (binOp .gtr 3 ii3 (Go.Value.int Go.IntKind.i64 0)) w fun t34 w =>
      j4 t34 w
    ) (j4 undef w))
    (fun t35 w => ∀ _ : Nat → Value,
    JoinP 1 (fun j5 => GuardP t35 true (
      Quiet Try.prog C (Instr.fieldAt 106 ix4 1) w fun t36 w =>
      Quiet Try.prog C (Instr.loadAt 9 t36) w fun t37 w =>
      Quiet Try.prog C (binOp .sub 3 ii3 (Go.Value.int Go.IntKind.i64 1)) w fun t40 w =>
      Quiet Try.prog C (Instr.indexAt 70 il0 t40) w fun t41 w =>
      Quiet Try.prog C (Instr.fieldAt 106 t41 1) w fun t42 w =>
      Quiet Try.prog C (Instr.loadAt 9 t42) w fun t43 w =>
      Quiet Try.prog C (binOp .leq 9 t37 t43) w fun t44 w =>
      j5 t44 w
    ) (j5 undef w))
    (fun t44 w => ∀ _ : Nat → Value,
    JoinP 1 (fun j6 => GuardP t31 false (
      PickP t35 t44 (Go.Value.bool false) fun t45 =>
      j6 t45 w
    ) (j6 undef w))
    (fun t45 w => ∀ _ : Nat → Value,
    PickP t31 (Go.Value.bool true) t45 fun t46 =>
    ∀ W, C W → J t46 W
    )
    )
    )
    )
    )
    )
    ) : DrawP Try.prog 51 (opsOf Try.f86 4) [0, 3, 4] [il0, ii3, ix4] [46] J w :=
  draw_quiet C (by kernel_rfl) hC (Eq.mp (by kernel_rfl) h)

theorem q98_5 {il0 ii3 ix4 : Value} {w : World} {J : VF 1} (C : World → Prop) (hC : C { w with drawn := w.drawn + 1 })
    (h : ∀ _ : Nat → Value,
    Quiet Try.prog C (Instr.fieldAt 87 ix4 0) w fun t15 w =>
    Quiet Try.prog C (Instr.loadAt 3 t15) w fun t16 w =>
    Quiet Try.prog C (binOp .lss 3 t16 (Go.Value.int Go.IntKind.i64 1)) w fun t17 w =>
    JoinP 1 (fun j1 => GuardP t17 false (
      Quiet Try.prog C (Instr.fieldAt 87 ix4 0) w fun t19 w =>
      Quiet Try.prog C (Instr.loadAt 3 t19) w fun t20 w =>
      Quiet Try.prog C (binOp .gtr 3 t20 (Go.Value.int Go.IntKind.i64 4)) w fun t21 w =>
      j1 t21 w
    ) (j1 undef w))
    (fun t21 w => ∀ _ : Nat → Value,
    PickP t17 (Go.Value.bool true) t21 fun t22 =>
    JoinP 1 (fun j2 => GuardP t22 false (
      Quiet Try.prog C (Instr.fieldAt 87 ix4 1) w fun t24 w =>
      Quiet Try.prog C (Instr.loadAt 9 t24) w fun t25 w =>
      QCall Try.prog C 114 #[t25] w fun t26 w =>
      Quiet Try.prog C (Op.unary Go.UnOp.not t26) w fun t27 w =>
      j2 t27 w
    ) (j2 undef w))
    (fun t27 w => ∀ _ : Nat → Value,
    PickP t22 (Go.Value.bool true) t27 fun t28 =>
    JoinP 1 (fun j3 => GuardP t28 false (
      Quiet Try.prog C (Instr.fieldAt 87 ix4 2) w fun t30 w =>
      Quiet Try.prog C (Instr.loadAt 9 t30) w fun t31 w =>
      QCall Try.prog C 99 #[t31] w fun t32 w =>
      Quiet Try.prog C (Op.unary Go.UnOp.not t32) w fun t33 w =>
      j3 t33 w
    ) (j3 undef w))
    (fun t33 w => ∀ _ : Nat → Value,
    PickP t28 (Go.Value.bool true) t33 fun t34 =>
    JoinP 1 (fun j4 => GuardP t34 false (
      Quiet Try.prog C (binOp .gtr 3 ii3 (Go.Value.int Go.IntKind.i64 0)) w fun t37 w =>
      j4 t37 w
    ) (j4 undef w))
    (fun t38 w => ∀ _ : Nat → Value,
    JoinP 1 (fun j5 => GuardP t38 true (
      Quiet Try.prog C (Instr.fieldAt 87 ix4 1) w fun t39 w =>
      Quiet Try.prog C (Instr.loadAt 9 t39) w fun t40 w =>
      Quiet Try.prog C (binOp .sub 3 ii3 (Go.Value.int Go.IntKind.i64 1)) w fun t43 w =>
      Quiet Try.prog C (Instr.indexAt 36 il0 t43) w fun t44 w =>
      Quiet Try.prog C (Instr.fieldAt 87 t44 1) w fun t45 w =>
      Quiet Try.prog C (Instr.loadAt 9 t45) w fun t46 w =>
      Quiet Try.prog C (binOp .leq 9 t40 t46) w fun t47 w =>
      j5 t47 w
    ) (j5 undef w))
    (fun t47 w => ∀ _ : Nat → Value,
    JoinP 1 (fun j6 => GuardP t34 false (
      PickP t38 t47 (Go.Value.bool false) fun t48 =>
      j6 t48 w
    ) (j6 undef w))
    (fun t48 w => ∀ _ : Nat → Value,
    PickP t34 (Go.Value.bool true) t48 fun t49 =>
    ∀ W, C W → J t49 W
    )
    )
    )
    )
    )
    )
    ) : DrawP Try.prog 53 (opsOf Try.f98 5) [0, 3, 4] [il0, ii3, ix4] [49] J w :=
  draw_quiet C (by kernel_rfl) hC (Eq.mp (by kernel_rfl) h)

theorem q52_1 {ir0 in1 : Value} {w : World} {J : VF 1} (C : World → Prop) (hC : C { w with drawn := w.drawn + 1 })
    (h : ∀ _ : Nat → Value,
    NilCheckP ir0 fun t7 =>
    Quiet Try.prog C (Instr.fieldAt 84 t7 2) w fun t8 w =>
    Quiet Try.prog C (Instr.loadAt 4 t8) w fun t9 w =>
    JoinP 1 (fun j1 => GuardP t9 false (
      Quiet Try.prog C (binOp .lss 3 in1 (Go.Value.int Go.IntKind.i64 0)) w fun t12 w =>
      j1 t12 w
    ) (j1 undef w))
    (fun t12 w => ∀ _ : Nat → Value,
    PickP t9 (Go.Value.bool true) t12 fun t13 =>
    JoinP 1 (fun j2 => GuardP t13 false (
      NilCheckP ir0 fun t17 =>
      Quiet Try.prog C (Instr.fieldAt 84 t17 0) w fun t18 w =>
      Quiet Try.prog C (Instr.loadAt 34 t18) w fun t19 w =>
      Quiet Try.prog C (Builtin.len_ #[34] 3 #[t19]) w fun t20 w =>
      NilCheckP ir0 fun t22 =>
      Quiet Try.prog C (Instr.fieldAt 84 t22 1) w fun t23 w =>
      Quiet Try.prog C (Instr.loadAt 3 t23) w fun t24 w =>
      Quiet Try.prog C (binOp .sub 3 t20 t24) w fun t25 w =>
      Quiet Try.prog C (binOp .gtr 3 in1 t25) w fun t26 w =>
      j2 t26 w
    ) (j2 undef w))
    (fun t26 w => ∀ _ : Nat → Value,
    PickP t13 (Go.Value.bool true) t26 fun t27 =>
    ∀ W, C W → J t27 W
    )
    )
    ) : DrawP Try.prog 56 (opsOf Try.f52 1) [0, 1] [ir0, in1] [27] J w :=
  draw_quiet C (by kernel_rfl) hC (Eq.mp (by kernel_rfl) h)

theorem q52_4 {ir0 in1 : Value} {w : World} {J : VF 1} (C : World → Prop) (hC : C { w with drawn := w.drawn + 1 })
    (h : ∀ _ : Nat → Value,
    NilCheckP ir0 fun t32 =>
    Quiet Try.prog C (Instr.fieldAt 84 t32 0) w fun t33 w =>
    Quiet Try.prog C (Instr.loadAt 34 t33) w fun t34 w =>
    NilCheckP ir0 fun t36 =>
    Quiet Try.prog C (Instr.fieldAt 84 t36 1) w fun t37 w =>
    Quiet Try.prog C (Instr.loadAt 3 t37) w fun t38 w =>
    NilCheckP ir0 fun t40 =>
    Quiet Try.prog C (Instr.fieldAt 84 t40 1) w fun t41 w =>
    Quiet Try.prog C (Instr.loadAt 3 t41) w fun t42 w =>
    Quiet Try.prog C (binOp .add 3 t42 in1) w fun t44 w =>
    Quiet Try.prog C (Instr.sliceAt 34 t34 (some t38) (some t44) none) w fun t45 w =>
    ∀ W, C W → J t45 W
    ) : DrawP Try.prog 56 (opsOf Try.f52 4) [0, 1] [ir0, in1] [5] J w :=
  draw_quiet C (by kernel_rfl) hC (Eq.mp (by kernel_rfl) h)

theorem q53_1 {ir0 : Value} {w : World} {J : VF 3} (C : World → Prop) (hC : C { w with drawn := w.drawn + 1 })
    (h : ∀ _ : Nat → Value,
    NilCheckP ir0 fun t8 =>
    Quiet Try.prog C (Instr.fieldAt 84 t8 0) w fun t9 w =>
    Quiet Try.prog C (Instr.loadAt 34 t9) w fun t10 w =>
    NilCheckP ir0 fun t12 =>
    Quiet Try.prog C (Instr.fieldAt 84 t12 1) w fun t13 w =>
    Quiet Try.prog C (Instr.loadAt 3 t13) w fun t14 w =>
    QCall Try.prog C 75 #[t10, t14] w fun t15 w =>
    Quiet Try.prog C (Instr.extract t15 0) w fun t16 w =>
    Quiet Try.prog C (Instr.extract t15 1) w fun t17 w =>
    Quiet Try.prog C (Instr.extract t15 2) w fun t18 w =>
    ∀ W, C W → J t16 t17 t18 W
    ) : DrawP Try.prog 35 (opsOf Try.f53 1) [0] [ir0] [3, 4, 5] J w :=
  draw_quiet C (by kernel_rfl) hC (Eq.mp (by kernel_rfl) h)

theorem h55_6 {ib0 id3 iout4 ii5 : Value} {w : World} {J : VF 1} (w0 : World) (C : Nat → World → Prop) (F15 F16 : Nat → Value → World → Prop) 
    (hw : Ext w0 w) (s15 : ∀ k, FSt Ext (F15 k)) (s16 : ∀ k, FSt Ext (F16 k)) (h0 : C 0 { w with drawn := w.drawn + 1 })
    (h :     Quiet Try.prog (Stg w0 w C 0 1) (Instr.indexAt 34 ib0 ii5) w fun t16 w =>
    Quiet Try.prog (Stg w0 w C 0 1) (Instr.loadAt 5 t16) w fun t17 w =>
    Quiet Try.prog (Stg w0 w C 0 1) (binOp .shr 5 t17 (Go.Value.int Go.IntKind.u64 4)) w fun t18 w =>
    Quiet Try.prog (Stg w0 w C 0 1) (Instr.index 9 id3 t18) w fun t19 w =>
    Quiet Try.prog (Stg w0 w C 0 1) (Instr.indexAt 34 ib0 ii5) w fun t23 w =>
    Quiet Try.prog (Stg w0 w C 0 1) (Instr.loadAt 5 t23) w fun t24 w =>
    Quiet Try.prog (Stg w0 w C 0 1) (binOp .and 5 t24 (Go.Value.int Go.IntKind.u8 15)) w fun t25 w =>
    Quiet Try.prog (Stg w0 w C 0 1) (Instr.index 9 id3 t25) w fun t26 w =>
    (∀ W, At w0 w W → C 0 W → 
      Does Try.prog (Instr.buildSlice 34 2 #[(0, t19), (1, t26)]) W fun t27 w =>
      (Ext W w ∧ C 0 w ∧ F15 0 t27 w)
    ) ∧
    (∀ t27 : Value, ∀ W, At w0 w W → C 0 W → F15 0 t27 W → 
      Does Try.prog (Builtin.append_ #[34, 34] 34 #[iout4, t27]) W fun t28 w =>
      (At w0 W w ∧ C 1 w ∧ F16 1 t28 w ∧ (F15 0 t27 W → F15 1 t27 w) ∧ True)
    ) ∧
    (∀ out4 : Value, ∀ W, At w0 w W → C 1 W → F16 1 out4 W → J out4 W)) :
    DrawP Try.prog 31 (opsOf Try.f55 6) [0, 3, 4, 5] [ib0, id3, iout4, ii5] [4] J w := by
  obtain ⟨ct16, y4, h⟩ := h
  obtain ⟨ct17, y5, h⟩ := h
  obtain ⟨ct18, y6, h⟩ := h
  obtain ⟨ct19, y7, h⟩ := h
  obtain ⟨ct23, y11, h⟩ := h
  obtain ⟨ct24, y12, h⟩ := h
  obtain ⟨ct25, y13, h⟩ := h
  obtain ⟨ct26, y14, h⟩ := h
  obtain ⟨o15, o16, fin⟩ := h
  have hall : ∀ _ : Nat → Value,
    (∀ k : Nat, 0 ≤ k → k ≤ 0 → ∀ W, SR w0 { w with drawn := w.drawn + 1 } W → C k W → 
      (Ext W W ∧ C k W ∧ iout4 = iout4)
    ) ∧
    (∀ k : Nat, 0 ≤ k → k ≤ 1 → ∀ W, SR w0 { w with drawn := w.drawn + 1 } W → C k W → 
      (Ext W W ∧ C k W ∧ id3 = id3)
    ) ∧
    (∀ k : Nat, 0 ≤ k → k ≤ 1 → ∀ W, SR w0 { w with drawn := w.drawn + 1 } W → C k W → 
      (Ext W W ∧ C k W ∧ ib0 = ib0)
    ) ∧
    (∀ k : Nat, 0 ≤ k → k ≤ 1 → ∀ W, SR w0 { w with drawn := w.drawn + 1 } W → C k W → 
      (Ext W W ∧ C k W ∧ ii5 = ii5)
    ) ∧
    (∀ t14 t15 : Value, ∀ k : Nat, 0 ≤ k → k ≤ 1 → ∀ W, SR w0 { w with drawn := w.drawn + 1 } W → C k W → t14 = ib0 → t15 = ii5 → 
      Does Try.prog (Instr.indexAt 34 t14 t15) W fun t16 w =>
      (Ext W w ∧ C k w ∧ t16 = ct16)
    ) ∧
    (∀ t16 : Value, ∀ k : Nat, 0 ≤ k → k ≤ 1 → ∀ W, SR w0 { w with drawn := w.drawn + 1 } W → C k W → t16 = ct16 → 
      Does Try.prog (Instr.loadAt 5 t16) W fun t17 w =>
      (Ext W w ∧ C k w ∧ t17 = ct17)
    ) ∧
    (∀ t17 : Value, ∀ k : Nat, 0 ≤ k → k ≤ 1 → ∀ W, SR w0 { w with drawn := w.drawn + 1 } W → C k W → t17 = ct17 → 
      Does Try.prog (binOp .shr 5 t17 (Go.Value.int Go.IntKind.u64 4)) W fun t18 w =>
      (Ext W w ∧ C k w ∧ t18 = ct18)
    ) ∧
    (∀ t13 t18 : Value, ∀ k : Nat, 0 ≤ k → k ≤ 1 → ∀ W, SR w0 { w with drawn := w.drawn + 1 } W → C k W → t13 = id3 → t18 = ct18 → 
      Does Try.prog (Instr.index 9 t13 t18) W fun t19 w =>
      (Ext W w ∧ C k w ∧ t19 = ct19)
    ) ∧
    (∀ k : Nat, 0 ≤ k → k ≤ 1 → ∀ W, SR w0 { w with drawn := w.drawn + 1 } W → C k W → 
      (Ext W W ∧ C k W ∧ id3 = id3)
    ) ∧
    (∀ k : Nat, 0 ≤ k → k ≤ 1 → ∀ W, SR w0 { w with drawn := w.drawn + 1 } W → C k W → 
      (Ext W W ∧ C k W ∧ ib0 = ib0)
    ) ∧
    (∀ k : Nat, 0 ≤ k → k ≤ 1 → ∀ W, SR w0 { w with drawn := w.drawn + 1 } W → C k W → 
      (Ext W W ∧ C k W ∧ ii5 = ii5)
    ) ∧
    (∀ t21 t22 : Value, ∀ k : Nat, 0 ≤ k → k ≤ 1 → ∀ W, SR w0 { w with drawn := w.drawn + 1 } W → C k W → t21 = ib0 → t22 = ii5 → 
      Does Try.prog (Instr.indexAt 34 t21 t22) W fun t23 w =>
      (Ext W w ∧ C k w ∧ t23 = ct23)
    ) ∧
    (∀ t23 : Value, ∀ k : Nat, 0 ≤ k → k ≤ 1 → ∀ W, SR w0 { w with drawn := w.drawn + 1 } W → C k W → t23 = ct23 → 
      Does Try.prog (Instr.loadAt 5 t23) W fun t24 w =>
      (Ext W w ∧ C k w ∧ t24 = ct24)
    ) ∧
    (∀ t24 : Value, ∀ k : Nat, 0 ≤ k → k ≤ 1 → ∀ W, SR w0 { w with drawn := w.drawn + 1 } W → C k W → t24 = ct24 → 
      Does Try.prog (binOp .and 5 t24 (Go.Value.int Go.IntKind.u8 15)) W fun t25 w =>
      (Ext W w ∧ C k w ∧ t25 = ct25)
    ) ∧
    (∀ t20 t25 : Value, ∀ k : Nat, 0 ≤ k → k ≤ 1 → ∀ W, SR w0 { w with drawn := w.drawn + 1 } W → C k W → t20 = id3 → t25 = ct25 → 
      Does Try.prog (Instr.index 9 t20 t25) W fun t26 w =>
      (Ext W w ∧ C k w ∧ t26 = ct26)
    ) ∧
    (∀ t19 t26 : Value, ∀ k : Nat, 0 ≤ k → k ≤ 0 → ∀ W, SR w0 { w with drawn := w.drawn + 1 } W → C k W → t19 = ct19 → t26 = ct26 → 
      Does Try.prog (Instr.buildSlice 34 2 #[(0, t19), (1, t26)]) W fun t27 w =>
      (Ext W w ∧ C k w ∧ F15 k t27 w)
    ) ∧
    (∀ t12 t27 : Value, ∀ W, SR w0 { w with drawn := w.drawn + 1 } W → C 0 W → t12 = iout4 → F15 0 t27 W → 
      Does Try.prog (Builtin.append_ #[34, 34] 34 #[t12, t27]) W fun t28 w =>
      (SR w0 W w ∧ C 1 w ∧ F16 1 t28 w ∧ (t12 = iout4 → t12 = iout4) ∧ (∀ v : Value, v = id3 → v = id3) ∧ (∀ v : Value, v = ib0 → v = ib0) ∧ (∀ v : Value, v = ii5 → v = ii5) ∧ (∀ v : Value, v = ct16 → v = ct16) ∧ (∀ v : Value, v = ct17 → v = ct17) ∧ (∀ v : Value, v = ct18 → v = ct18) ∧ (∀ v : Value, v = ct19 → v = ct19) ∧ (∀ v : Value, v = id3 → v = id3) ∧ (∀ v : Value, v = ib0 → v = ib0) ∧ (∀ v : Value, v = ii5 → v = ii5) ∧ (∀ v : Value, v = ct23 → v = ct23) ∧ (∀ v : Value, v = ct24 → v = ct24) ∧ (∀ v : Value, v = ct25 → v = ct25) ∧ (∀ v : Value, v = ct26 → v = ct26) ∧ (F15 0 t27 W → F15 1 t27 w) ∧ True)
    ) ∧
    (∀ t28 : Value, ∀ k : Nat, 1 ≤ k → k ≤ 1 → ∀ W, SR w0 { w with drawn := w.drawn + 1 } W → C k W → F16 k t28 W → 
      (Ext W W ∧ C k W ∧ F16 k t28 W)
    ) ∧ True := fun _ => ⟨
    fun  k hk1 hk2 W hS hC  => (by exact ⟨Ext.refl _, hC, rfl⟩),
    fun  k hk1 hk2 W hS hC  => (by exact ⟨Ext.refl _, hC, rfl⟩),
    fun  k hk1 hk2 W hS hC  => (by exact ⟨Ext.refl _, hC, rfl⟩),
    fun  k hk1 hk2 W hS hC  => (by exact ⟨Ext.refl _, hC, rfl⟩),
    fun t14 t15 k hk1 hk2 W hS hC ht14 ht15 => (by subst ht14; subst ht15; exact ⟨_, W, y4 W ⟨SR.at hw hS, k, hk1, hk2, hC⟩, Ext.refl _, hC, rfl⟩),
    fun t16 k hk1 hk2 W hS hC ht16 => (by subst ht16; exact ⟨_, W, y5 W ⟨SR.at hw hS, k, hk1, hk2, hC⟩, Ext.refl _, hC, rfl⟩),
    fun t17 k hk1 hk2 W hS hC ht17 => (by subst ht17; exact ⟨_, W, y6 W ⟨SR.at hw hS, k, hk1, hk2, hC⟩, Ext.refl _, hC, rfl⟩),
    fun t13 t18 k hk1 hk2 W hS hC ht13 ht18 => (by subst ht13; subst ht18; exact ⟨_, W, y7 W ⟨SR.at hw hS, k, hk1, hk2, hC⟩, Ext.refl _, hC, rfl⟩),
    fun  k hk1 hk2 W hS hC  => (by exact ⟨Ext.refl _, hC, rfl⟩),
    fun  k hk1 hk2 W hS hC  => (by exact ⟨Ext.refl _, hC, rfl⟩),
    fun  k hk1 hk2 W hS hC  => (by exact ⟨Ext.refl _, hC, rfl⟩),
    fun t21 t22 k hk1 hk2 W hS hC ht21 ht22 => (by subst ht21; subst ht22; exact ⟨_, W, y11 W ⟨SR.at hw hS, k, hk1, hk2, hC⟩, Ext.refl _, hC, rfl⟩),
    fun t23 k hk1 hk2 W hS hC ht23 => (by subst ht23; exact ⟨_, W, y12 W ⟨SR.at hw hS, k, hk1, hk2, hC⟩, Ext.refl _, hC, rfl⟩),
    fun t24 k hk1 hk2 W hS hC ht24 => (by subst ht24; exact ⟨_, W, y13 W ⟨SR.at hw hS, k, hk1, hk2, hC⟩, Ext.refl _, hC, rfl⟩),
    fun t20 t25 k hk1 hk2 W hS hC ht20 ht25 => (by subst ht20; subst ht25; exact ⟨_, W, y14 W ⟨SR.at hw hS, k, hk1, hk2, hC⟩, Ext.refl _, hC, rfl⟩),
    fun t19 t26 k hk1 hk2 W hS hC ht19 ht26 => (by obtain rfl : k = 0 := (by omega); subst ht19; subst ht26; exact o15  W (SR.at hw hS) hC ),
    fun t12 t27 W hS hC ht12 ht27 => (by subst ht12; exact Does.mono (o16 t27 W (SR.at hw hS) hC ht27) fun _ _ h => ⟨SR.of h.1, h.2.1, h.2.2.1, fun h => h, fun _ h => h, fun _ h => h, fun _ h => h, fun _ h => h, fun _ h => h, fun _ h => h, fun _ h => h, fun _ h => h, fun _ h => h, fun _ h => h, fun _ h => h, fun _ h => h, fun _ h => h, fun _ h => h, h.2.2.2.1, trivial⟩),
    fun t28 k hk1 hk2 W hS hC ht28 => ⟨Ext.refl _, hC, ht28⟩,
    trivial⟩
  have hst := lkF2_st (S := Ext) (l := [(0, fun _ v _ => v = iout4), (1, fun _ v _ => v = id3), (2, fun _ v _ => v = ib0), (3, fun _ v _ => v = ii5), (4, fun _ v _ => v = ct16), (5, fun _ v _ => v = ct17), (6, fun _ v _ => v = ct18), (7, fun _ v _ => v = ct19), (8, fun _ v _ => v = id3), (9, fun _ v _ => v = ib0), (10, fun _ v _ => v = ii5), (11, fun _ v _ => v = ct23), (12, fun _ v _ => v = ct24), (13, fun _ v _ => v = ct25), (14, fun _ v _ => v = ct26), (15, F15), (16, F16), (17, F16)]) (fun p hp => by
    simp only [List.mem_cons, List.not_mem_nil, or_false] at hp
    rcases hp with rfl | rfl | rfl | rfl | rfl | rfl | rfl | rfl | rfl | rfl | rfl | rfl | rfl | rfl | rfl | rfl | rfl | rfl
    · exact fun _ => FSt.const _
    · exact fun _ => FSt.const _
    · exact fun _ => FSt.const _
    · exact fun _ => FSt.const _
    · exact fun _ => FSt.const _
    · exact fun _ => FSt.const _
    · exact fun _ => FSt.const _
    · exact fun _ => FSt.const _
    · exact fun _ => FSt.const _
    · exact fun _ => FSt.const _
    · exact fun _ => FSt.const _
    · exact fun _ => FSt.const _
    · exact fun _ => FSt.const _
    · exact fun _ => FSt.const _
    · exact fun _ => FSt.const _
    · exact s15
    · exact s16
    · exact s16
    )
  have hf : ∀ out4 : Value, ∀ W, SR w0 { w with drawn := w.drawn + 1 } W → C 1 W → F16 1 out4 W → J out4 W := fun out4 W hS hC hout4 => (by exact fin out4 W (SR.at hw hS) hC hout4)
  exact draw_phi2 (T := [16]) Ext (SR w0) C (lkF2 [(0, fun _ v _ => v = iout4), (1, fun _ v _ => v = id3), (2, fun _ v _ => v = ib0), (3, fun _ v _ => v = ii5), (4, fun _ v _ => v = ct16), (5, fun _ v _ => v = ct17), (6, fun _ v _ => v = ct18), (7, fun _ v _ => v = ct19), (8, fun _ v _ => v = id3), (9, fun _ v _ => v = ib0), (10, fun _ v _ => v = ii5), (11, fun _ v _ => v = ct23), (12, fun _ v _ => v = ct24), (13, fun _ v _ => v = ct25), (14, fun _ v _ => v = ct26), (15, F15), (16, F16), (17, F16)]) (by kernel_rfl) (SR.refl w0) (fun _ _ _ => SR.trans) (fun _ _ => SR.ofExt) hst h0 (Eq.mp (by kernel_rfl) hall) (Eq.mp (by kernel_rfl) hf)

theorem h119_5 {iout3 ix5 : Value} {w : World} {J : VF 1} (w0 : World) (C : Nat → World → Prop) (F7 F8 : Nat → Value → World → Prop) 
    (hw : Ext w0 w) (s7 : ∀ k, FSt Ext (F7 k)) (s8 : ∀ k, FSt Ext (F8 k)) (h0 : C 0 { w with drawn := w.drawn + 1 })
    (h :     Quiet Try.prog (Stg w0 w C 0 1) (binOp .shr 5 ix5 (Go.Value.int Go.IntKind.u64 4)) w fun t14 w =>
    Quiet Try.prog (Stg w0 w C 0 1) (Instr.index 9 (Go.Value.string { data := #[48, 49, 50, 51, 52, 53, 54, 55, 56, 57, 97, 98, 99, 100, 101, 102] }) t14) w fun t15 w =>
    Quiet Try.prog (Stg w0 w C 0 1) (binOp .and 5 ix5 (Go.Value.int Go.IntKind.u8 15)) w fun t17 w =>
    Quiet Try.prog (Stg w0 w C 0 1) (Instr.index 9 (Go.Value.string { data := #[48, 49, 50, 51, 52, 53, 54, 55, 56, 57, 97, 98, 99, 100, 101, 102] }) t17) w fun t18 w =>
    (∀ W, At w0 w W → C 0 W → 
      Does Try.prog (Instr.buildSlice 34 2 #[(0, t15), (1, t18)]) W fun t19 w =>
      (Ext W w ∧ C 0 w ∧ F7 0 t19 w)
    ) ∧
    (∀ t19 : Value, ∀ W, At w0 w W → C 0 W → F7 0 t19 W → 
      Does Try.prog (Builtin.append_ #[34, 34] 34 #[iout3, t19]) W fun t20 w =>
      (At w0 W w ∧ C 1 w ∧ F8 1 t20 w ∧ (F7 0 t19 W → F7 1 t19 w) ∧ True)
    ) ∧
    (∀ out3 : Value, ∀ W, At w0 w W → C 1 W → F8 1 out3 W → J out3 W)) :
    DrawP Try.prog 24 (opsOf Try.f119 5) [3, 5] [iout3, ix5] [3] J w := by
  obtain ⟨ct14, y2, h⟩ := h
  obtain ⟨ct15, y3, h⟩ := h
  obtain ⟨ct17, y5, h⟩ := h
  obtain ⟨ct18, y6, h⟩ := h
  obtain ⟨o7, o8, fin⟩ := h
  have hall : ∀ _ : Nat → Value,
    (∀ k : Nat, 0 ≤ k → k ≤ 0 → ∀ W, SR w0 { w with drawn := w.drawn + 1 } W → C k W → 
      (Ext W W ∧ C k W ∧ iout3 = iout3)
    ) ∧
    (∀ k : Nat, 0 ≤ k → k ≤ 1 → ∀ W, SR w0 { w with drawn := w.drawn + 1 } W → C k W → 
      (Ext W W ∧ C k W ∧ ix5 = ix5)
    ) ∧
    (∀ t13 : Value, ∀ k : Nat, 0 ≤ k → k ≤ 1 → ∀ W, SR w0 { w with drawn := w.drawn + 1 } W → C k W → t13 = ix5 → 
      Does Try.prog (binOp .shr 5 t13 (Go.Value.int Go.IntKind.u64 4)) W fun t14 w =>
      (Ext W w ∧ C k w ∧ t14 = ct14)
    ) ∧
    (∀ t14 : Value, ∀ k : Nat, 0 ≤ k → k ≤ 1 → ∀ W, SR w0 { w with drawn := w.drawn + 1 } W → C k W → t14 = ct14 → 
      Does Try.prog (Instr.index 9 (Go.Value.string { data := #[48, 49, 50, 51, 52, 53, 54, 55, 56, 57, 97, 98, 99, 100, 101, 102] }) t14) W fun t15 w =>
      (Ext W w ∧ C k w ∧ t15 = ct15)
    ) ∧
    (∀ k : Nat, 0 ≤ k → k ≤ 1 → ∀ W, SR w0 { w with drawn := w.drawn + 1 } W → C k W → 
      (Ext W W ∧ C k W ∧ ix5 = ix5)
    ) ∧
    (∀ t16 : Value, ∀ k : Nat, 0 ≤ k → k ≤ 1 → ∀ W, SR w0 { w with drawn := w.drawn + 1 } W → C k W → t16 = ix5 → 
      Does Try.prog (binOp .and 5 t16 (Go.Value.int Go.IntKind.u8 15)) W fun t17 w =>
      (Ext W w ∧ C k w ∧ t17 = ct17)
    ) ∧
    (∀ t17 : Value, ∀ k : Nat, 0 ≤ k → k ≤ 1 → ∀ W, SR w0 { w with drawn := w.drawn + 1 } W → C k W → t17 = ct17 → 
      Does Try.prog (Instr.index 9 (Go.Value.string { data := #[48, 49, 50, 51, 52, 53, 54, 55, 56, 57, 97, 98, 99, 100, 101, 102] }) t17) W fun t18 w =>
      (Ext W w ∧ C k w ∧ t18 = ct18)
    ) ∧
    (∀ t15 t18 : Value, ∀ k : Nat, 0 ≤ k → k ≤ 0 → ∀ W, SR w0 { w with drawn := w.drawn + 1 } W → C k W → t15 = ct15 → t18 = ct18 → 
      Does Try.prog (Instr.buildSlice 34 2 #[(0, t15), (1, t18)]) W fun t19 w =>
      (Ext W w ∧ C k w ∧ F7 k t19 w)
    ) ∧
    (∀ t12 t19 : Value, ∀ W, SR w0 { w with drawn := w.drawn + 1 } W → C 0 W → t12 = iout3 → F7 0 t19 W → 
      Does Try.prog (Builtin.append_ #[34, 34] 34 #[t12, t19]) W fun t20 w =>
      (SR w0 W w ∧ C 1 w ∧ F8 1 t20 w ∧ (t12 = iout3 → t12 = iout3) ∧ (∀ v : Value, v = ix5 → v = ix5) ∧ (∀ v : Value, v = ct14 → v = ct14) ∧ (∀ v : Value, v = ct15 → v = ct15) ∧ (∀ v : Value, v = ix5 → v = ix5) ∧ (∀ v : Value, v = ct17 → v = ct17) ∧ (∀ v : Value, v = ct18 → v = ct18) ∧ (F7 0 t19 W → F7 1 t19 w) ∧ True)
    ) ∧
    (∀ t20 : Value, ∀ k : Nat, 1 ≤ k → k ≤ 1 → ∀ W, SR w0 { w with drawn := w.drawn + 1 } W → C k W → F8 k t20 W → 
      (Ext W W ∧ C k W ∧ F8 k t20 W)
    ) ∧ True := fun _ => ⟨
    fun  k hk1 hk2 W hS hC  => (by exact ⟨Ext.refl _, hC, rfl⟩),
    fun  k hk1 hk2 W hS hC  => (by exact ⟨Ext.refl _, hC, rfl⟩),
    fun t13 k hk1 hk2 W hS hC ht13 => (by subst ht13; exact ⟨_, W, y2 W ⟨SR.at hw hS, k, hk1, hk2, hC⟩, Ext.refl _, hC, rfl⟩),
    fun t14 k hk1 hk2 W hS hC ht14 => (by subst ht14; exact ⟨_, W, y3 W ⟨SR.at hw hS, k, hk1, hk2, hC⟩, Ext.refl _, hC, rfl⟩),
    fun  k hk1 hk2 W hS hC  => (by exact ⟨Ext.refl _, hC, rfl⟩),
    fun t16 k hk1 hk2 W hS hC ht16 => (by subst ht16; exact ⟨_, W, y5 W ⟨SR.at hw hS, k, hk1, hk2, hC⟩, Ext.refl _, hC, rfl⟩),
    fun t17 k hk1 hk2 W hS hC ht17 => (by subst ht17; exact ⟨_, W, y6 W ⟨SR.at hw hS, k, hk1, hk2, hC⟩, Ext.refl _, hC, rfl⟩),
    fun t15 t18 k hk1 hk2 W hS hC ht15 ht18 => (by obtain rfl : k = 0 := (by omega); subst ht15; subst ht18; exact o7  W (SR.at hw hS) hC ),
    fun t12 t19 W hS hC ht12 ht19 => (by subst ht12; exact Does.mono (o8 t19 W (SR.at hw hS) hC ht19) fun _ _ h => ⟨SR.of h.1, h.2.1, h.2.2.1, fun h => h, fun _ h => h, fun _ h => h, fun _ h => h, fun _ h => h, fun _ h => h, fun _ h => h, h.2.2.2.1, trivial⟩),
    fun t20 k hk1 hk2 W hS hC ht20 => ⟨Ext.refl _, hC, ht20⟩,
    trivial⟩
  have hst := lkF2_st (S := Ext) (l := [(0, fun _ v _ => v = iout3), (1, fun _ v _ => v = ix5), (2, fun _ v _ => v = ct14), (3, fun _ v _ => v = ct15), (4, fun _ v _ => v = ix5), (5, fun _ v _ => v = ct17), (6, fun _ v _ => v = ct18), (7, F7), (8, F8), (9, F8)]) (fun p hp => by
    simp only [List.mem_cons, List.not_mem_nil, or_false] at hp
    rcases hp with rfl | rfl | rfl | rfl | rfl | rfl | rfl | rfl | rfl | rfl
    · exact fun _ => FSt.const _
    · exact fun _ => FSt.const _
    · exact fun _ => FSt.const _
    · exact fun _ => FSt.const _
    · exact fun _ => FSt.const _
    · exact fun _ => FSt.const _
    · exact fun _ => FSt.const _
    · exact s7
    · exact s8
    · exact s8
    )
  have hf : ∀ out3 : Value, ∀ W, SR w0 { w with drawn := w.drawn + 1 } W → C 1 W → F8 1 out3 W → J out3 W := fun out3 W hS hC hout3 => (by exact fin out3 W (SR.at hw hS) hC hout3)
  exact draw_phi2 (T := [8]) Ext (SR w0) C (lkF2 [(0, fun _ v _ => v = iout3), (1, fun _ v _ => v = ix5), (2, fun _ v _ => v = ct14), (3, fun _ v _ => v = ct15), (4, fun _ v _ => v = ix5), (5, fun _ v _ => v = ct17), (6, fun _ v _ => v = ct18), (7, F7), (8, F8), (9, F8)]) (by kernel_rfl) (SR.refl w0) (fun _ _ _ => SR.trans) (fun _ _ => SR.ofExt) hst h0 (Eq.mp (by kernel_rfl) hall) (Eq.mp (by kernel_rfl) hf)

theorem h43_12 {ir4 iy6 : Value} {w : World} {J : VF 1} (w0 : World) (C : Nat → World → Prop) (F4 F5 F9 : Nat → Value → World → Prop) 
    (hw : Ext w0 w) (s4 : ∀ k, FSt Ext (F4 k)) (s5 : ∀ k, FSt Ext (F5 k)) (s9 : ∀ k, FSt Ext (F9 k)) (h0 : C 0 { w with drawn := w.drawn + 1 })
    (h :     Quiet Try.prog (Stg w0 w C 0 2) (Instr.fieldAt 106 iy6 0) w fun t39 w =>
    Quiet Try.prog (Stg w0 w C 0 2) (Instr.loadAt 3 t39) w fun t40 w =>
    Quiet Try.prog (Stg w0 w C 0 2) (convert 3 5 t40) w fun t41 w =>
    Quiet Try.prog (Stg w0 w C 0 2) (Instr.fieldAt 106 iy6 1) w fun t44 w =>
    Quiet Try.prog (Stg w0 w C 0 2) (Instr.loadAt 9 t44) w fun t45 w =>
    Quiet Try.prog (Stg w0 w C 0 1) (Builtin.len_ #[9] 3 #[t45]) w fun t46 w =>
    (∀ W, At w0 w W → C 0 W → 
      Does Try.prog (Instr.buildSlice 34 1 #[(0, t41)]) W fun t42 w =>
      (Ext W w ∧ C 0 w ∧ F4 0 t42 w)
    ) ∧
    (∀ t42 : Value, ∀ W, At w0 w W → C 0 W → F4 0 t42 W → 
      Does Try.prog (Builtin.append_ #[34, 34] 34 #[ir4, t42]) W fun t43 w =>
      (At w0 W w ∧ C 1 w ∧ F5 1 t43 w ∧ (F4 0 t42 W → F4 1 t42 w) ∧ True)
    ) ∧
    (∀ t43 : Value, ∀ W, At w0 w W → C 1 W → F5 1 t43 W → 
      Call Try.prog 70 #[t43, t46] W fun t47 w =>
      (At w0 W w ∧ C 2 w ∧ F9 2 t47 w ∧ (∀ v, F4 1 v W → F4 2 v w) ∧ (F5 1 t43 W → F5 2 t43 w) ∧ True)
    ) ∧
    (∀ r4 : Value, ∀ W, At w0 w W → C 2 W → F9 2 r4 W → J r4 W)) :
    DrawP Try.prog 93 (opsOf Try.f43 12) [4, 6] [ir4, iy6] [4] J w := by
  obtain ⟨ct39, y1, h⟩ := h
  obtain ⟨ct40, y2, h⟩ := h
  obtain ⟨ct41, y3, h⟩ := h
  obtain ⟨ct44, y6, h⟩ := h
  obtain ⟨ct45, y7, h⟩ := h
  obtain ⟨ct46, y8, h⟩ := h
  obtain ⟨o4, o5, o9, fin⟩ := h
  have hall : ∀ _ : Nat → Value,
    (∀ k : Nat, 0 ≤ k → k ≤ 0 → ∀ W, SR w0 { w with drawn := w.drawn + 1 } W → C k W → 
      (Ext W W ∧ C k W ∧ ir4 = ir4)
    ) ∧
    (∀ k : Nat, 0 ≤ k → k ≤ 2 → ∀ W, SR w0 { w with drawn := w.drawn + 1 } W → C k W → 
      Does Try.prog (Instr.fieldAt 106 iy6 0) W fun t39 w =>
      (Ext W w ∧ C k w ∧ t39 = ct39)
    ) ∧
    (∀ t39 : Value, ∀ k : Nat, 0 ≤ k → k ≤ 2 → ∀ W, SR w0 { w with drawn := w.drawn + 1 } W → C k W → t39 = ct39 → 
      Does Try.prog (Instr.loadAt 3 t39) W fun t40 w =>
      (Ext W w ∧ C k w ∧ t40 = ct40)
    ) ∧
    (∀ t40 : Value, ∀ k : Nat, 0 ≤ k → k ≤ 2 → ∀ W, SR w0 { w with drawn := w.drawn + 1 } W → C k W → t40 = ct40 → 
      Does Try.prog (convert 3 5 t40) W fun t41 w =>
      (Ext W w ∧ C k w ∧ t41 = ct41)
    ) ∧
    (∀ t41 : Value, ∀ k : Nat, 0 ≤ k → k ≤ 0 → ∀ W, SR w0 { w with drawn := w.drawn + 1 } W → C k W → t41 = ct41 → 
      Does Try.prog (Instr.buildSlice 34 1 #[(0, t41)]) W fun t42 w =>
      (Ext W w ∧ C k w ∧ F4 k t42 w)
    ) ∧
    (∀ t38 t42 : Value, ∀ W, SR w0 { w with drawn := w.drawn + 1 } W → C 0 W → t38 = ir4 → F4 0 t42 W → 
      Does Try.prog (Builtin.append_ #[34, 34] 34 #[t38, t42]) W fun t43 w =>
      (SR w0 W w ∧ C 1 w ∧ F5 1 t43 w ∧ (t38 = ir4 → t38 = ir4) ∧ (∀ v : Value, v = ct39 → v = ct39) ∧ (∀ v : Value, v = ct40 → v = ct40) ∧ (∀ v : Value, v = ct41 → v = ct41) ∧ (F4 0 t42 W → F4 1 t42 w) ∧ (∀ v : Value, v = ct44 → v = ct44) ∧ (∀ v : Value, v = ct45 → v = ct45) ∧ (∀ v : Value, v = ct46 → v = ct46) ∧ True)
    ) ∧
    (∀ k : Nat, 0 ≤ k → k ≤ 2 → ∀ W, SR w0 { w with drawn := w.drawn + 1 } W → C k W → 
      Does Try.prog (Instr.fieldAt 106 iy6 1) W fun t44 w =>
      (Ext W w ∧ C k w ∧ t44 = ct44)
    ) ∧
    (∀ t44 : Value, ∀ k : Nat, 0 ≤ k → k ≤ 2 → ∀ W, SR w0 { w with drawn := w.drawn + 1 } W → C k W → t44 = ct44 → 
      Does Try.prog (Instr.loadAt 9 t44) W fun t45 w =>
      (Ext W w ∧ C k w ∧ t45 = ct45)
    ) ∧
    (∀ t45 : Value, ∀ k : Nat, 0 ≤ k → k ≤ 1 → ∀ W, SR w0 { w with drawn := w.drawn + 1 } W → C k W → t45 = ct45 → 
      Does Try.prog (Builtin.len_ #[9] 3 #[t45]) W fun t46 w =>
      (Ext W w ∧ C k w ∧ t46 = ct46)
    ) ∧
    (∀ t43 t46 : Value, ∀ W, SR w0 { w with drawn := w.drawn + 1 } W → C 1 W → F5 1 t43 W → t46 = ct46 → 
      Call Try.prog 70 #[t43, t46] W fun t47 w =>
      (SR w0 W w ∧ C 2 w ∧ F9 2 t47 w ∧ (∀ v : Value, v = ir4 → v = ir4) ∧ (∀ v : Value, v = ct39 → v = ct39) ∧ (∀ v : Value, v = ct40 → v = ct40) ∧ (∀ v : Value, v = ct41 → v = ct41) ∧ (∀ v : Value, F4 1 v W → F4 2 v w) ∧ (F5 1 t43 W → F5 2 t43 w) ∧ (∀ v : Value, v = ct44 → v = ct44) ∧ (∀ v : Value, v = ct45 → v = ct45) ∧ (t46 = ct46 → t46 = ct46) ∧ True)
    ) ∧
    (∀ t47 : Value, ∀ k : Nat, 2 ≤ k → k ≤ 2 → ∀ W, SR w0 { w with drawn := w.drawn + 1 } W → C k W → F9 k t47 W → 
      (Ext W W ∧ C k W ∧ F9 k t47 W)
    ) ∧ True := fun _ => ⟨
    fun  k hk1 hk2 W hS hC  => (by exact ⟨Ext.refl _, hC, rfl⟩),
    fun  k hk1 hk2 W hS hC  => (by exact ⟨_, W, y1 W ⟨SR.at hw hS, k, hk1, hk2, hC⟩, Ext.refl _, hC, rfl⟩),
    fun t39 k hk1 hk2 W hS hC ht39 => (by subst ht39; exact ⟨_, W, y2 W ⟨SR.at hw hS, k, hk1, hk2, hC⟩, Ext.refl _, hC, rfl⟩),
    fun t40 k hk1 hk2 W hS hC ht40 => (by subst ht40; exact ⟨_, W, y3 W ⟨SR.at hw hS, k, hk1, hk2, hC⟩, Ext.refl _, hC, rfl⟩),
    fun t41 k hk1 hk2 W hS hC ht41 => (by obtain rfl : k = 0 := (by omega); subst ht41; exact o4  W (SR.at hw hS) hC ),
    fun t38 t42 W hS hC ht38 ht42 => (by subst ht38; exact Does.mono (o5 t42 W (SR.at hw hS) hC ht42) fun _ _ h => ⟨SR.of h.1, h.2.1, h.2.2.1, fun h => h, fun _ h => h, fun _ h => h, fun _ h => h, h.2.2.2.1, fun _ h => h, fun _ h => h, fun _ h => h, trivial⟩),
    fun  k hk1 hk2 W hS hC  => (by exact ⟨_, W, y6 W ⟨SR.at hw hS, k, hk1, hk2, hC⟩, Ext.refl _, hC, rfl⟩),
    fun t44 k hk1 hk2 W hS hC ht44 => (by subst ht44; exact ⟨_, W, y7 W ⟨SR.at hw hS, k, hk1, hk2, hC⟩, Ext.refl _, hC, rfl⟩),
    fun t45 k hk1 hk2 W hS hC ht45 => (by subst ht45; exact ⟨_, W, y8 W ⟨SR.at hw hS, k, hk1, hk2, hC⟩, Ext.refl _, hC, rfl⟩),
    fun t43 t46 W hS hC ht43 ht46 => (by subst ht46; exact Call.mono (o9 t43 W (SR.at hw hS) hC ht43) fun _ _ h => ⟨SR.of h.1, h.2.1, h.2.2.1, fun _ h => h, fun _ h => h, fun _ h => h, fun _ h => h, h.2.2.2.1, h.2.2.2.2.1, fun _ h => h, fun _ h => h, fun h => h, trivial⟩),
    fun t47 k hk1 hk2 W hS hC ht47 => ⟨Ext.refl _, hC, ht47⟩,
    trivial⟩
  have hst := lkF2_st (S := Ext) (l := [(0, fun _ v _ => v = ir4), (1, fun _ v _ => v = ct39), (2, fun _ v _ => v = ct40), (3, fun _ v _ => v = ct41), (4, F4), (5, F5), (6, fun _ v _ => v = ct44), (7, fun _ v _ => v = ct45), (8, fun _ v _ => v = ct46), (9, F9), (10, F9)]) (fun p hp => by
    simp only [List.mem_cons, List.not_mem_nil, or_false] at hp
    rcases hp with rfl | rfl | rfl | rfl | rfl | rfl | rfl | rfl | rfl | rfl | rfl
    · exact fun _ => FSt.const _
    · exact fun _ => FSt.const _
    · exact fun _ => FSt.const _
    · exact fun _ => FSt.const _
    · exact s4
    · exact s5
    · exact fun _ => FSt.const _
    · exact fun _ => FSt.const _
    · exact fun _ => FSt.const _
    · exact s9
    · exact s9
    )
  have hf : ∀ r4 : Value, ∀ W, SR w0 { w with drawn := w.drawn + 1 } W → C 2 W → F9 2 r4 W → J r4 W := fun r4 W hS hC hr4 => (by exact fin r4 W (SR.at hw hS) hC hr4)
  exact draw_phi2 (T := [5, 9]) Ext (SR w0) C (lkF2 [(0, fun _ v _ => v = ir4), (1, fun _ v _ => v = ct39), (2, fun _ v _ => v = ct40), (3, fun _ v _ => v = ct41), (4, F4), (5, F5), (6, fun _ v _ => v = ct44), (7, fun _ v _ => v = ct45), (8, fun _ v _ => v = ct46), (9, F9), (10, F9)]) (by kernel_rfl) (SR.refl w0) (fun _ _ _ => SR.trans) (fun _ _ => SR.ofExt) hst h0 (Eq.mp (by kernel_rfl) hall) (Eq.mp (by kernel_rfl) hf)

theorem h43_13 {ir4 iy6 : Value} {w : World} {J : VF 1} (w0 : World) (C : Nat → World → Prop) (F3 F6 : Nat → Value → World → Prop) 
    (hw : Ext w0 w) (s3 : ∀ k, FSt Ext (F3 k)) (s6 : ∀ k, FSt Ext (F6 k)) (h0 : C 0 { w with drawn := w.drawn + 1 })
    (h :     Quiet Try.prog (Stg w0 w C 0 2) (Instr.fieldAt 106 iy6 1) w fun t49 w =>
    Quiet Try.prog (Stg w0 w C 0 0) (Instr.loadAt 9 t49) w fun t50 w =>
    Quiet Try.prog (Stg w0 w C 0 2) (Instr.fieldAt 106 iy6 2) w fun t52 w =>
    Quiet Try.prog (Stg w0 w C 0 1) (Instr.loadAt 9 t52) w fun t53 w =>
    (∀ W, At w0 w W → C 0 W → 
      Does Try.prog (Builtin.append_ #[34, 9] 34 #[ir4, t50]) W fun t51 w =>
      (At w0 W w ∧ C 1 w ∧ F3 1 t51 w ∧ True)
    ) ∧
    (∀ t51 : Value, ∀ W, At w0 w W → C 1 W → F3 1 t51 W → 
      Call Try.prog 71 #[t51, t53] W fun t54 w =>
      (At w0 W w ∧ C 2 w ∧ F6 2 t54 w ∧ (F3 1 t51 W → F3 2 t51 w) ∧ True)
    ) ∧
    (∀ r4 : Value, ∀ W, At w0 w W → C 2 W → F6 2 r4 W → J r4 W)) :
    DrawP Try.prog 93 (opsOf Try.f43 13) [4, 6] [ir4, iy6] [4] J w := by
  obtain ⟨ct49, y1, h⟩ := h
  obtain ⟨ct50, y2, h⟩ := h
  obtain ⟨ct52, y4, h⟩ := h
  obtain ⟨ct53, y5, h⟩ := h
  obtain ⟨o3, o6, fin⟩ := h
  have hall : ∀ _ : Nat → Value,
    (∀ k : Nat, 0 ≤ k → k ≤ 0 → ∀ W, SR w0 { w with drawn := w.drawn + 1 } W → C k W → 
      (Ext W W ∧ C k W ∧ ir4 = ir4)
    ) ∧
    (∀ k : Nat, 0 ≤ k → k ≤ 2 → ∀ W, SR w0 { w with drawn := w.drawn + 1 } W → C k W → 
      Does Try.prog (Instr.fieldAt 106 iy6 1) W fun t49 w =>
      (Ext W w ∧ C k w ∧ t49 = ct49)
    ) ∧
    (∀ t49 : Value, ∀ k : Nat, 0 ≤ k → k ≤ 0 → ∀ W, SR w0 { w with drawn := w.drawn + 1 } W → C k W → t49 = ct49 → 
      Does Try.prog (Instr.loadAt 9 t49) W fun t50 w =>
      (Ext W w ∧ C k w ∧ t50 = ct50)
    ) ∧
    (∀ t48 t50 : Value, ∀ W, SR w0 { w with drawn := w.drawn + 1 } W → C 0 W → t48 = ir4 → t50 = ct50 → 
      Does Try.prog (Builtin.append_ #[34, 9] 34 #[t48, t50]) W fun t51 w =>
      (SR w0 W w ∧ C 1 w ∧ F3 1 t51 w ∧ (t48 = ir4 → t48 = ir4) ∧ (∀ v : Value, v = ct49 → v = ct49) ∧ (t50 = ct50 → t50 = ct50) ∧ (∀ v : Value, v = ct52 → v = ct52) ∧ (∀ v : Value, v = ct53 → v = ct53) ∧ True)
    ) ∧
    (∀ k : Nat, 0 ≤ k → k ≤ 2 → ∀ W, SR w0 { w with drawn := w.drawn + 1 } W → C k W → 
      Does Try.prog (Instr.fieldAt 106 iy6 2) W fun t52 w =>
      (Ext W w ∧ C k w ∧ t52 = ct52)
    ) ∧
    (∀ t52 : Value, ∀ k : Nat, 0 ≤ k → k ≤ 1 → ∀ W, SR w0 { w with drawn := w.drawn + 1 } W → C k W → t52 = ct52 → 
      Does Try.prog (Instr.loadAt 9 t52) W fun t53 w =>
      (Ext W w ∧ C k w ∧ t53 = ct53)
    ) ∧
    (∀ t51 t53 : Value, ∀ W, SR w0 { w with drawn := w.drawn + 1 } W → C 1 W → F3 1 t51 W → t53 = ct53 → 
      Call Try.prog 71 #[t51, t53] W fun t54 w =>
      (SR w0 W w ∧ C 2 w ∧ F6 2 t54 w ∧ (∀ v : Value, v = ir4 → v = ir4) ∧ (∀ v : Value, v = ct49 → v = ct49) ∧ (∀ v : Value, v = ct50 → v = ct50) ∧ (F3 1 t51 W → F3 2 t51 w) ∧ (∀ v : Value, v = ct52 → v = ct52) ∧ (t53 = ct53 → t53 = ct53) ∧ True)
    ) ∧
    (∀ t54 : Value, ∀ k : Nat, 2 ≤ k → k ≤ 2 → ∀ W, SR w0 { w with drawn := w.drawn + 1 } W → C k W → F6 k t54 W → 
      (Ext W W ∧ C k W ∧ F6 k t54 W)
    ) ∧ True := fun _ => ⟨
    fun  k hk1 hk2 W hS hC  => (by exact ⟨Ext.refl _, hC, rfl⟩),
    fun  k hk1 hk2 W hS hC  => (by exact ⟨_, W, y1 W ⟨SR.at hw hS, k, hk1, hk2, hC⟩, Ext.refl _, hC, rfl⟩),
    fun t49 k hk1 hk2 W hS hC ht49 => (by subst ht49; exact ⟨_, W, y2 W ⟨SR.at hw hS, k, hk1, hk2, hC⟩, Ext.refl _, hC, rfl⟩),
    fun t48 t50 W hS hC ht48 ht50 => (by subst ht48; subst ht50; exact Does.mono (o3  W (SR.at hw hS) hC ) fun _ _ h => ⟨SR.of h.1, h.2.1, h.2.2.1, fun h => h, fun _ h => h, fun h => h, fun _ h => h, fun _ h => h, trivial⟩),
    fun  k hk1 hk2 W hS hC  => (by exact ⟨_, W, y4 W ⟨SR.at hw hS, k, hk1, hk2, hC⟩, Ext.refl _, hC, rfl⟩),
    fun t52 k hk1 hk2 W hS hC ht52 => (by subst ht52; exact ⟨_, W, y5 W ⟨SR.at hw hS, k, hk1, hk2, hC⟩, Ext.refl _, hC, rfl⟩),
    fun t51 t53 W hS hC ht51 ht53 => (by subst ht53; exact Call.mono (o6 t51 W (SR.at hw hS) hC ht51) fun _ _ h => ⟨SR.of h.1, h.2.1, h.2.2.1, fun _ h => h, fun _ h => h, fun _ h => h, h.2.2.2.1, fun _ h => h, fun h => h, trivial⟩),
    fun t54 k hk1 hk2 W hS hC ht54 => ⟨Ext.refl _, hC, ht54⟩,
    trivial⟩
  have hst := lkF2_st (S := Ext) (l := [(0, fun _ v _ => v = ir4), (1, fun _ v _ => v = ct49), (2, fun _ v _ => v = ct50), (3, F3), (4, fun _ v _ => v = ct52), (5, fun _ v _ => v = ct53), (6, F6), (7, F6)]) (fun p hp => by
    simp only [List.mem_cons, List.not_mem_nil, or_false] at hp
    rcases hp with rfl | rfl | rfl | rfl | rfl | rfl | rfl | rfl
    · exact fun _ => FSt.const _
    · exact fun _ => FSt.const _
    · exact fun _ => FSt.const _
    · exact s3
    · exact fun _ => FSt.const _
    · exact fun _ => FSt.const _
    · exact s6
    · exact s6
    )
  have hf : ∀ r4 : Value, ∀ W, SR w0 { w with drawn := w.drawn + 1 } W → C 2 W → F6 2 r4 W → J r4 W := fun r4 W hS hC hr4 => (by exact fin r4 W (SR.at hw hS) hC hr4)
  exact draw_phi2 (T := [3, 6]) Ext (SR w0) C (lkF2 [(0, fun _ v _ => v = ir4), (1, fun _ v _ => v = ct49), (2, fun _ v _ => v = ct50), (3, F3), (4, fun _ v _ => v = ct52), (5, fun _ v _ => v = ct53), (6, F6), (7, F6)]) (by kernel_rfl) (SR.refl w0) (fun _ _ _ => SR.trans) (fun _ _ => SR.ofExt) hst h0 (Eq.mp (by kernel_rfl) hall) (Eq.mp (by kernel_rfl) hf)

theorem h43_16 {io1 ir4 : Value} {w : World} {J : VF 1} (w0 : World) (C : Nat → World → Prop) (F3 F8 F9 : Nat → Value → World → Prop) 
    (hw : Ext w0 w) (s3 : ∀ k, FSt Ext (F3 k)) (s8 : ∀ k, FSt Ext (F8 k)) (s9 : ∀ k, FSt Ext (F9 k)) (h0 : C 0 { w with drawn := w.drawn + 1 })
    (h :     Quiet Try.prog (Stg w0 w C 0 2) (Instr.fieldAt 72 io1 3) w fun t58 w =>
    Quiet Try.prog (Stg w0 w C 0 0) (Instr.loadAt 9 t58) w fun t59 w =>
    Quiet Try.prog (Stg w0 w C 0 2) (Instr.fieldAt 72 io1 4) w fun t61 w =>
    Quiet Try.prog (Stg w0 w C 0 2) (Instr.loadAt 23 t61) w fun t62 w =>
    Quiet Try.prog (Stg w0 w C 0 2) (Builtin.len_ #[23] 3 #[t62]) w fun t63 w =>
    Quiet Try.prog (Stg w0 w C 0 2) (convert 3 5 t63) w fun t64 w =>
    (∀ W, At w0 w W → C 0 W → 
      Call Try.prog 71 #[ir4, t59] W fun t60 w =>
      (At w0 W w ∧ C 1 w ∧ F3 1 t60 w ∧ (∀ v, F8 0 v W → F8 1 v w) ∧ True)
    ) ∧
    (∀ k : Nat, 0 ≤ k → k ≤ 1 → ∀ W, At w0 w W → C k W → 
      Does Try.prog (Instr.buildSlice 34 1 #[(0, t64)]) W fun t65 w =>
      (Ext W w ∧ C k w ∧ F8 k t65 w)
    ) ∧
    (∀ t60 t65 : Value, ∀ W, At w0 w W → C 1 W → F3 1 t60 W → F8 1 t65 W → 
      Does Try.prog (Builtin.append_ #[34, 34] 34 #[t60, t65]) W fun t66 w =>
      (At w0 W w ∧ C 2 w ∧ F9 2 t66 w ∧ (F3 1 t60 W → F3 2 t60 w) ∧ (F8 1 t65 W → F8 2 t65 w) ∧ True)
    ) ∧
    (∀ r4 : Value, ∀ W, At w0 w W → C 2 W → F9 2 r4 W → J r4 W)) :
    DrawP Try.prog 93 (opsOf Try.f43 16) [1, 4] [io1, ir4] [4] J w := by
  obtain ⟨ct58, y1, h⟩ := h
  obtain ⟨ct59, y2, h⟩ := h
  obtain ⟨ct61, y4, h⟩ := h
  obtain ⟨ct62, y5, h⟩ := h
  obtain ⟨ct63, y6, h⟩ := h
  obtain ⟨ct64, y7, h⟩ := h
  obtain ⟨o3, o8, o9, fin⟩ := h
  have hall : ∀ _ : Nat → Value,
    (∀ k : Nat, 0 ≤ k → k ≤ 0 → ∀ W, SR w0 { w with drawn := w.drawn + 1 } W → C k W → 
      (Ext W W ∧ C k W ∧ ir4 = ir4)
    ) ∧
    (∀ k : Nat, 0 ≤ k → k ≤ 2 → ∀ W, SR w0 { w with drawn := w.drawn + 1 } W → C k W → 
      Does Try.prog (Instr.fieldAt 72 io1 3) W fun t58 w =>
      (Ext W w ∧ C k w ∧ t58 = ct58)
    ) ∧
    (∀ t58 : Value, ∀ k : Nat, 0 ≤ k → k ≤ 0 → ∀ W, SR w0 { w with drawn := w.drawn + 1 } W → C k W → t58 = ct58 → 
      Does Try.prog (Instr.loadAt 9 t58) W fun t59 w =>
      (Ext W w ∧ C k w ∧ t59 = ct59)
    ) ∧
    (∀ t57 t59 : Value, ∀ W, SR w0 { w with drawn := w.drawn + 1 } W → C 0 W → t57 = ir4 → t59 = ct59 → 
      Call Try.prog 71 #[t57, t59] W fun t60 w =>
      (SR w0 W w ∧ C 1 w ∧ F3 1 t60 w ∧ (t57 = ir4 → t57 = ir4) ∧ (∀ v : Value, v = ct58 → v = ct58) ∧ (t59 = ct59 → t59 = ct59) ∧ (∀ v : Value, v = ct61 → v = ct61) ∧ (∀ v : Value, v = ct62 → v = ct62) ∧ (∀ v : Value, v = ct63 → v = ct63) ∧ (∀ v : Value, v = ct64 → v = ct64) ∧ (∀ v : Value, F8 0 v W → F8 1 v w) ∧ True)
    ) ∧
    (∀ k : Nat, 0 ≤ k → k ≤ 2 → ∀ W, SR w0 { w with drawn := w.drawn + 1 } W → C k W → 
      Does Try.prog (Instr.fieldAt 72 io1 4) W fun t61 w =>
      (Ext W w ∧ C k w ∧ t61 = ct61)
    ) ∧
    (∀ t61 : Value, ∀ k : Nat, 0 ≤ k → k ≤ 2 → ∀ W, SR w0 { w with drawn := w.drawn + 1 } W → C k W → t61 = ct61 → 
      Does Try.prog (Instr.loadAt 23 t61) W fun t62 w =>
      (Ext W w ∧ C k w ∧ t62 = ct62)
    ) ∧
    (∀ t62 : Value, ∀ k : Nat, 0 ≤ k → k ≤ 2 → ∀ W, SR w0 { w with drawn := w.drawn + 1 } W → C k W → t62 = ct62 → 
      Does Try.prog (Builtin.len_ #[23] 3 #[t62]) W fun t63 w =>
      (Ext W w ∧ C k w ∧ t63 = ct63)
    ) ∧
    (∀ t63 : Value, ∀ k : Nat, 0 ≤ k → k ≤ 2 → ∀ W, SR w0 { w with drawn := w.drawn + 1 } W → C k W → t63 = ct63 → 
      Does Try.prog (convert 3 5 t63) W fun t64 w =>
      (Ext W w ∧ C k w ∧ t64 = ct64)
    ) ∧
    (∀ t64 : Value, ∀ k : Nat, 0 ≤ k → k ≤ 1 → ∀ W, SR w0 { w with drawn := w.drawn + 1 } W → C k W → t64 = ct64 → 
      Does Try.prog (Instr.buildSlice 34 1 #[(0, t64)]) W fun t65 w =>
      (Ext W w ∧ C k w ∧ F8 k t65 w)
    ) ∧
    (∀ t60 t65 : Value, ∀ W, SR w0 { w with drawn := w.drawn + 1 } W → C 1 W → F3 1 t60 W → F8 1 t65 W → 
      Does Try.prog (Builtin.append_ #[34, 34] 34 #[t60, t65]) W fun t66 w =>
      (SR w0 W w ∧ C 2 w ∧ F9 2 t66 w ∧ (∀ v : Value, v = ir4 → v = ir4) ∧ (∀ v : Value, v = ct58 → v = ct58) ∧ (∀ v : Value, v = ct59 → v = ct59) ∧ (F3 1 t60 W → F3 2 t60 w) ∧ (∀ v : Value, v = ct61 → v = ct61) ∧ (∀ v : Value, v = ct62 → v = ct62) ∧ (∀ v : Value, v = ct63 → v = ct63) ∧ (∀ v : Value, v = ct64 → v = ct64) ∧ (F8 1 t65 W → F8 2 t65 w) ∧ True)
    ) ∧
    (∀ t66 : Value, ∀ k : Nat, 2 ≤ k → k ≤ 2 → ∀ W, SR w0 { w with drawn := w.drawn + 1 } W → C k W → F9 k t66 W → 
      (Ext W W ∧ C k W ∧ F9 k t66 W)
    ) ∧ True := fun _ => ⟨
    fun  k hk1 hk2 W hS hC  => (by exact ⟨Ext.refl _, hC, rfl⟩),
    fun  k hk1 hk2 W hS hC  => (by exact ⟨_, W, y1 W ⟨SR.at hw hS, k, hk1, hk2, hC⟩, Ext.refl _, hC, rfl⟩),
    fun t58 k hk1 hk2 W hS hC ht58 => (by subst ht58; exact ⟨_, W, y2 W ⟨SR.at hw hS, k, hk1, hk2, hC⟩, Ext.refl _, hC, rfl⟩),
    fun t57 t59 W hS hC ht57 ht59 => (by subst ht57; subst ht59; exact Call.mono (o3  W (SR.at hw hS) hC ) fun _ _ h => ⟨SR.of h.1, h.2.1, h.2.2.1, fun h => h, fun _ h => h, fun h => h, fun _ h => h, fun _ h => h, fun _ h => h, fun _ h => h, h.2.2.2.1, trivial⟩),
    fun  k hk1 hk2 W hS hC  => (by exact ⟨_, W, y4 W ⟨SR.at hw hS, k, hk1, hk2, hC⟩, Ext.refl _, hC, rfl⟩),
    fun t61 k hk1 hk2 W hS hC ht61 => (by subst ht61; exact ⟨_, W, y5 W ⟨SR.at hw hS, k, hk1, hk2, hC⟩, Ext.refl _, hC, rfl⟩),
    fun t62 k hk1 hk2 W hS hC ht62 => (by subst ht62; exact ⟨_, W, y6 W ⟨SR.at hw hS, k, hk1, hk2, hC⟩, Ext.refl _, hC, rfl⟩),
    fun t63 k hk1 hk2 W hS hC ht63 => (by subst ht63; exact ⟨_, W, y7 W ⟨SR.at hw hS, k, hk1, hk2, hC⟩, Ext.refl _, hC, rfl⟩),
    fun t64 k hk1 hk2 W hS hC ht64 => (by subst ht64; exact o8  k hk1 hk2 W (SR.at hw hS) hC ),
    fun t60 t65 W hS hC ht60 ht65 => (by exact Does.mono (o9 t60 t65 W (SR.at hw hS) hC ht60 ht65) fun _ _ h => ⟨SR.of h.1, h.2.1, h.2.2.1, fun _ h => h, fun _ h => h, fun _ h => h, h.2.2.2.1, fun _ h => h, fun _ h => h, fun _ h => h, fun _ h => h, h.2.2.2.2.1, trivial⟩),
    fun t66 k hk1 hk2 W hS hC ht66 => ⟨Ext.refl _, hC, ht66⟩,
    trivial⟩
  have hst := lkF2_st (S := Ext) (l := [(0, fun _ v _ => v = ir4), (1, fun _ v _ => v = ct58), (2, fun _ v _ => v = ct59), (3, F3), (4, fun _ v _ => v = ct61), (5, fun _ v _ => v = ct62), (6, fun _ v _ => v = ct63), (7, fun _ v _ => v = ct64), (8, F8), (9, F9), (10, F9)]) (fun p hp => by
    simp only [List.mem_cons, List.not_mem_nil, or_false] at hp
    rcases hp with rfl | rfl | rfl | rfl | rfl | rfl | rfl | rfl | rfl | rfl | rfl
    · exact fun _ => FSt.const _
    · exact fun _ => FSt.const _
    · exact fun _ => FSt.const _
    · exact s3
    · exact fun _ => FSt.const _
    · exact fun _ => FSt.const _
    · exact fun _ => FSt.const _
    · exact fun _ => FSt.const _
    · exact s8
    · exact s9
    · exact s9
    )
  have hf : ∀ r4 : Value, ∀ W, SR w0 { w with drawn := w.drawn + 1 } W → C 2 W → F9 2 r4 W → J r4 W := fun r4 W hS hC hr4 => (by exact fin r4 W (SR.at hw hS) hC hr4)
  exact draw_phi2 (T := [3, 9]) Ext (SR w0) C (lkF2 [(0, fun _ v _ => v = ir4), (1, fun _ v _ => v = ct58), (2, fun _ v _ => v = ct59), (3, F3), (4, fun _ v _ => v = ct61), (5, fun _ v _ => v = ct62), (6, fun _ v _ => v = ct63), (7, fun _ v _ => v = ct64), (8, F8), (9, F9), (10, F9)]) (by kernel_rfl) (SR.refl w0) (fun _ _ _ => SR.trans) (fun _ _ => SR.ofExt) hst h0 (Eq.mp (by kernel_rfl) hall) (Eq.mp (by kernel_rfl) hf)

theorem h43_22 {io1 ir4 : Value} {w : World} {J : VF 1} (w0 : World) (C : Nat → World → Prop) (F3 F6 F10 : Nat → Value → World → Prop) 
    (hw : Ext w0 w) (s3 : ∀ k, FSt Ext (F3 k)) (s6 : ∀ k, FSt Ext (F6 k)) (s10 : ∀ k, FSt Ext (F10 k)) (h0 : C 0 { w with drawn := w.drawn + 1 })
    (h :     Quiet Try.prog (Stg w0 w C 0 3) (Instr.fieldAt 72 io1 5) w fun t79 w =>
    Quiet Try.prog (Stg w0 w C 0 0) (Instr.loadAt 3 t79) w fun t80 w =>
    Quiet Try.prog (Stg w0 w C 0 3) (Instr.fieldAt 72 io1 6) w fun t82 w =>
    Quiet Try.prog (Stg w0 w C 0 1) (Instr.loadAt 3 t82) w fun t83 w =>
    Quiet Try.prog (Stg w0 w C 0 3) (Instr.fieldAt 72 io1 7) w fun t85 w =>
    Quiet Try.prog (Stg w0 w C 0 3) (Instr.loadAt 9 t85) w fun t86 w =>
    Quiet Try.prog (Stg w0 w C 0 2) (Builtin.len_ #[9] 3 #[t86]) w fun t87 w =>
    (∀ W, At w0 w W → C 0 W → 
      Call Try.prog 70 #[ir4, t80] W fun t81 w =>
      (At w0 W w ∧ C 1 w ∧ F3 1 t81 w ∧ True)
    ) ∧
    (∀ t81 : Value, ∀ W, At w0 w W → C 1 W → F3 1 t81 W → 
      Call Try.prog 70 #[t81, t83] W fun t84 w =>
      (At w0 W w ∧ C 2 w ∧ F6 2 t84 w ∧ (F3 1 t81 W → F3 2 t81 w) ∧ True)
    ) ∧
    (∀ t84 : Value, ∀ W, At w0 w W → C 2 W → F6 2 t84 W → 
      Call Try.prog 70 #[t84, t87] W fun t88 w =>
      (At w0 W w ∧ C 3 w ∧ F10 3 t88 w ∧ (∀ v, F3 2 v W → F3 3 v w) ∧ (F6 2 t84 W → F6 3 t84 w) ∧ True)
    ) ∧
    (∀ r4 : Value, ∀ W, At w0 w W → C 3 W → F10 3 r4 W → J r4 W)) :
    DrawP Try.prog 93 (opsOf Try.f43 22) [1, 4] [io1, ir4] [4] J w := by
  obtain ⟨ct79, y1, h⟩ := h
  obtain ⟨ct80, y2, h⟩ := h
  obtain ⟨ct82, y4, h⟩ := h
  obtain ⟨ct83, y5, h⟩ := h
  obtain ⟨ct85, y7, h⟩ := h
  obtain ⟨ct86, y8, h⟩ := h
  obtain ⟨ct87, y9, h⟩ := h
  obtain ⟨o3, o6, o10, fin⟩ := h
  have hall : ∀ _ : Nat → Value,
    (∀ k : Nat, 0 ≤ k → k ≤ 0 → ∀ W, SR w0 { w with drawn := w.drawn + 1 } W → C k W → 
      (Ext W W ∧ C k W ∧ ir4 = ir4)
    ) ∧
    (∀ k : Nat, 0 ≤ k → k ≤ 3 → ∀ W, SR w0 { w with drawn := w.drawn + 1 } W → C k W → 
      Does Try.prog (Instr.fieldAt 72 io1 5) W fun t79 w =>
      (Ext W w ∧ C k w ∧ t79 = ct79)
    ) ∧
    (∀ t79 : Value, ∀ k : Nat, 0 ≤ k → k ≤ 0 → ∀ W, SR w0 { w with drawn := w.drawn + 1 } W → C k W → t79 = ct79 → 
      Does Try.prog (Instr.loadAt 3 t79) W fun t80 w =>
      (Ext W w ∧ C k w ∧ t80 = ct80)
    ) ∧
    (∀ t78 t80 : Value, ∀ W, SR w0 { w with drawn := w.drawn + 1 } W → C 0 W → t78 = ir4 → t80 = ct80 → 
      Call Try.prog 70 #[t78, t80] W fun t81 w =>
      (SR w0 W w ∧ C 1 w ∧ F3 1 t81 w ∧ (t78 = ir4 → t78 = ir4) ∧ (∀ v : Value, v = ct79 → v = ct79) ∧ (t80 = ct80 → t80 = ct80) ∧ (∀ v : Value, v = ct82 → v = ct82) ∧ (∀ v : Value, v = ct83 → v = ct83) ∧ (∀ v : Value, v = ct85 → v = ct85) ∧ (∀ v : Value, v = ct86 → v = ct86) ∧ (∀ v : Value, v = ct87 → v = ct87) ∧ True)
    ) ∧
    (∀ k : Nat, 0 ≤ k → k ≤ 3 → ∀ W, SR w0 { w with drawn := w.drawn + 1 } W → C k W → 
      Does Try.prog (Instr.fieldAt 72 io1 6) W fun t82 w =>
      (Ext W w ∧ C k w ∧ t82 = ct82)
    ) ∧
    (∀ t82 : Value, ∀ k : Nat, 0 ≤ k → k ≤ 1 → ∀ W, SR w0 { w with drawn := w.drawn + 1 } W → C k W → t82 = ct82 → 
      Does Try.prog (Instr.loadAt 3 t82) W fun t83 w =>
      (Ext W w ∧ C k w ∧ t83 = ct83)
    ) ∧
    (∀ t81 t83 : Value, ∀ W, SR w0 { w with drawn := w.drawn + 1 } W → C 1 W → F3 1 t81 W → t83 = ct83 → 
      Call Try.prog 70 #[t81, t83] W fun t84 w =>
      (SR w0 W w ∧ C 2 w ∧ F6 2 t84 w ∧ (∀ v : Value, v = ir4 → v = ir4) ∧ (∀ v : Value, v = ct79 → v = ct79) ∧ (∀ v : Value, v = ct80 → v = ct80) ∧ (F3 1 t81 W → F3 2 t81 w) ∧ (∀ v : Value, v = ct82 → v = ct82) ∧ (t83 = ct83 → t83 = ct83) ∧ (∀ v : Value, v = ct85 → v = ct85) ∧ (∀ v : Value, v = ct86 → v = ct86) ∧ (∀ v : Value, v = ct87 → v = ct87) ∧ True)
    ) ∧
    (∀ k : Nat, 0 ≤ k → k ≤ 3 → ∀ W, SR w0 { w with drawn := w.drawn + 1 } W → C k W → 
      Does Try.prog (Instr.fieldAt 72 io1 7) W fun t85 w =>
      (Ext W w ∧ C k w ∧ t85 = ct85)
    ) ∧
    (∀ t85 : Value, ∀ k : Nat, 0 ≤ k → k ≤ 3 → ∀ W, SR w0 { w with drawn := w.drawn + 1 } W → C k W → t85 = ct85 → 
      Does Try.prog (Instr.loadAt 9 t85) W fun t86 w =>
      (Ext W w ∧ C k w ∧ t86 = ct86)
    ) ∧
    (∀ t86 : Value, ∀ k : Nat, 0 ≤ k → k ≤ 2 → ∀ W, SR w0 { w with drawn := w.drawn + 1 } W → C k W → t86 = ct86 → 
      Does Try.prog (Builtin.len_ #[9] 3 #[t86]) W fun t87 w =>
      (Ext W w ∧ C k w ∧ t87 = ct87)
    ) ∧
    (∀ t84 t87 : Value, ∀ W, SR w0 { w with drawn := w.drawn + 1 } W → C 2 W → F6 2 t84 W → t87 = ct87 → 
      Call Try.prog 70 #[t84, t87] W fun t88 w =>
      (SR w0 W w ∧ C 3 w ∧ F10 3 t88 w ∧ (∀ v : Value, v = ir4 → v = ir4) ∧ (∀ v : Value, v = ct79 → v = ct79) ∧ (∀ v : Value, v = ct80 → v = ct80) ∧ (∀ v : Value, F3 2 v W → F3 3 v w) ∧ (∀ v : Value, v = ct82 → v = ct82) ∧ (∀ v : Value, v = ct83 → v = ct83) ∧ (F6 2 t84 W → F6 3 t84 w) ∧ (∀ v : Value, v = ct85 → v = ct85) ∧ (∀ v : Value, v = ct86 → v = ct86) ∧ (t87 = ct87 → t87 = ct87) ∧ True)
    ) ∧
    (∀ t88 : Value, ∀ k : Nat, 3 ≤ k → k ≤ 3 → ∀ W, SR w0 { w with drawn := w.drawn + 1 } W → C k W → F10 k t88 W → 
      (Ext W W ∧ C k W ∧ F10 k t88 W)
    ) ∧ True := fun _ => ⟨
    fun  k hk1 hk2 W hS hC  => (by exact ⟨Ext.refl _, hC, rfl⟩),
    fun  k hk1 hk2 W hS hC  => (by exact ⟨_, W, y1 W ⟨SR.at hw hS, k, hk1, hk2, hC⟩, Ext.refl _, hC, rfl⟩),
    fun t79 k hk1 hk2 W hS hC ht79 => (by subst ht79; exact ⟨_, W, y2 W ⟨SR.at hw hS, k, hk1, hk2, hC⟩, Ext.refl _, hC, rfl⟩),
    fun t78 t80 W hS hC ht78 ht80 => (by subst ht78; subst ht80; exact Call.mono (o3  W (SR.at hw hS) hC ) fun _ _ h => ⟨SR.of h.1, h.2.1, h.2.2.1, fun h => h, fun _ h => h, fun h => h, fun _ h => h, fun _ h => h, fun _ h => h, fun _ h => h, fun _ h => h, trivial⟩),
    fun  k hk1 hk2 W hS hC  => (by exact ⟨_, W, y4 W ⟨SR.at hw hS, k, hk1, hk2, hC⟩, Ext.refl _, hC, rfl⟩),
    fun t82 k hk1 hk2 W hS hC ht82 => (by subst ht82; exact ⟨_, W, y5 W ⟨SR.at hw hS, k, hk1, hk2, hC⟩, Ext.refl _, hC, rfl⟩),
    fun t81 t83 W hS hC ht81 ht83 => (by subst ht83; exact Call.mono (o6 t81 W (SR.at hw hS) hC ht81) fun _ _ h => ⟨SR.of h.1, h.2.1, h.2.2.1, fun _ h => h, fun _ h => h, fun _ h => h, h.2.2.2.1, fun _ h => h, fun h => h, fun _ h => h, fun _ h => h, fun _ h => h, trivial⟩),
    fun  k hk1 hk2 W hS hC  => (by exact ⟨_, W, y7 W ⟨SR.at hw hS, k, hk1, hk2, hC⟩, Ext.refl _, hC, rfl⟩),
    fun t85 k hk1 hk2 W hS hC ht85 => (by subst ht85; exact ⟨_, W, y8 W ⟨SR.at hw hS, k, hk1, hk2, hC⟩, Ext.refl _, hC, rfl⟩),
    fun t86 k hk1 hk2 W hS hC ht86 => (by subst ht86; exact ⟨_, W, y9 W ⟨SR.at hw hS, k, hk1, hk2, hC⟩, Ext.refl _, hC, rfl⟩),
    fun t84 t87 W hS hC ht84 ht87 => (by subst ht87; exact Call.mono (o10 t84 W (SR.at hw hS) hC ht84) fun _ _ h => ⟨SR.of h.1, h.2.1, h.2.2.1, fun _ h => h, fun _ h => h, fun _ h => h, h.2.2.2.1, fun _ h => h, fun _ h => h, h.2.2.2.2.1, fun _ h => h, fun _ h => h, fun h => h, trivial⟩),
    fun t88 k hk1 hk2 W hS hC ht88 => ⟨Ext.refl _, hC, ht88⟩,
    trivial⟩
  have hst := lkF2_st (S := Ext) (l := [(0, fun _ v _ => v = ir4), (1, fun _ v _ => v = ct79), (2, fun _ v _ => v = ct80), (3, F3), (4, fun _ v _ => v = ct82), (5, fun _ v _ => v = ct83), (6, F6), (7, fun _ v _ => v = ct85), (8, fun _ v _ => v = ct86), (9, fun _ v _ => v = ct87), (10, F10), (11, F10)]) (fun p hp => by
    simp only [List.mem_cons, List.not_mem_nil, or_false] at hp
    rcases hp with rfl | rfl | rfl | rfl | rfl | rfl | rfl | rfl | rfl | rfl | rfl | rfl
    · exact fun _ => FSt.const _
    · exact fun _ => FSt.const _
    · exact fun _ => FSt.const _
    · exact s3
    · exact fun _ => FSt.const _
    · exact fun _ => FSt.const _
    · exact s6
    · exact fun _ => FSt.const _
    · exact fun _ => FSt.const _
    · exact fun _ => FSt.const _
    · exact s10
    · exact s10
    )
  have hf : ∀ r4 : Value, ∀ W, SR w0 { w with drawn := w.drawn + 1 } W → C 3 W → F10 3 r4 W → J r4 W := fun r4 W hS hC hr4 => (by exact fin r4 W (SR.at hw hS) hC hr4)
  exact draw_phi2 (T := [3, 6, 10]) Ext (SR w0) C (lkF2 [(0, fun _ v _ => v = ir4), (1, fun _ v _ => v = ct79), (2, fun _ v _ => v = ct80), (3, F3), (4, fun _ v _ => v = ct82), (5, fun _ v _ => v = ct83), (6, F6), (7, fun _ v _ => v = ct85), (8, fun _ v _ => v = ct86), (9, fun _ v _ => v = ct87), (10, F10), (11, F10)]) (by kernel_rfl) (SR.refl w0) (fun _ _ _ => SR.trans) (fun _ _ => SR.ofExt) hst h0 (Eq.mp (by kernel_rfl) hall) (Eq.mp (by kernel_rfl) hf)

theorem h56_13 {ir4 iy6 : Value} {w : World} {J : VF 1} (w0 : World) (C : Nat → World → Prop) (F4 F5 F9 F10 F13 : Nat → Value → World → Prop) 
    (hw : Ext w0 w) (s4 : ∀ k, FSt Ext (F4 k)) (s5 : ∀ k, FSt Ext (F5 k)) (s9 : ∀ k, FSt Ext (F9 k)) (s10 : ∀ k, FSt Ext (F10 k)) (s13 : ∀ k, FSt Ext (F13 k)) (h0 : C 0 { w with drawn := w.drawn + 1 })
    (h :     Quiet Try.prog (Stg w0 w C 0 3) (Instr.fieldAt 87 iy6 0) w fun t44 w =>
    Quiet Try.prog (Stg w0 w C 0 3) (Instr.loadAt 3 t44) w fun t45 w =>
    Quiet Try.prog (Stg w0 w C 0 3) (convert 3 5 t45) w fun t46 w =>
    Quiet Try.prog (Stg w0 w C 0 3) (Instr.fieldAt 87 iy6 1) w fun t49 w =>
    Quiet Try.prog (Stg w0 w C 0 3) (Instr.loadAt 9 t49) w fun t50 w =>
    Quiet Try.prog (Stg w0 w C 0 3) (Builtin.len_ #[9] 3 #[t50]) w fun t51 w =>
    Quiet Try.prog (Stg w0 w C 0 3) (Instr.fieldAt 87 iy6 1) w fun t54 w =>
    Quiet Try.prog (Stg w0 w C 0 2) (Instr.loadAt 9 t54) w fun t55 w =>
    (∀ W, At w0 w W → C 0 W → 
      Does Try.prog (Instr.buildSlice 34 1 #[(0, t46)]) W fun t47 w =>
      (Ext W w ∧ C 0 w ∧ F4 0 t47 w)
    ) ∧
    (∀ t47 : Value, ∀ W, At w0 w W → C 0 W → F4 0 t47 W → 
      Does Try.prog (Builtin.append_ #[34, 34] 34 #[ir4, t47]) W fun t48 w =>
      (At w0 W w ∧ C 1 w ∧ F5 1 t48 w ∧ (F4 0 t47 W → F4 1 t47 w) ∧ True)
    ) ∧
    (∀ W, At w0 w W → C 1 W → 
      Call Try.prog 77 #[t51] W fun t52 w =>
      (Ext W w ∧ C 1 w ∧ F9 1 t52 w)
    ) ∧
    (∀ t48 t52 : Value, ∀ W, At w0 w W → C 1 W → F5 1 t48 W → F9 1 t52 W → 
      Does Try.prog (Builtin.append_ #[34, 34] 34 #[t48, t52]) W fun t53 w =>
      (At w0 W w ∧ C 2 w ∧ F10 2 t53 w ∧ (∀ v, F4 1 v W → F4 2 v w) ∧ (F5 1 t48 W → F5 2 t48 w) ∧ (F9 1 t52 W → F9 2 t52 w) ∧ True)
    ) ∧
    (∀ t53 : Value, ∀ W, At w0 w W → C 2 W → F10 2 t53 W → 
      Does Try.prog (Builtin.append_ #[34, 9] 34 #[t53, t55]) W fun t56 w =>
      (At w0 W w ∧ C 3 w ∧ F13 3 t56 w ∧ (∀ v, F4 2 v W → F4 3 v w) ∧ (∀ v, F5 2 v W → F5 3 v w) ∧ (∀ v, F9 2 v W → F9 3 v w) ∧ (F10 2 t53 W → F10 3 t53 w) ∧ True)
    ) ∧
    (∀ r4 : Value, ∀ W, At w0 w W → C 3 W → F13 3 r4 W → J r4 W)) :
    DrawP Try.prog 109 (opsOf Try.f56 13) [4, 6] [ir4, iy6] [4] J w := by
  obtain ⟨ct44, y1, h⟩ := h
  obtain ⟨ct45, y2, h⟩ := h
  obtain ⟨ct46, y3, h⟩ := h
  obtain ⟨ct49, y6, h⟩ := h
  obtain ⟨ct50, y7, h⟩ := h
  obtain ⟨ct51, y8, h⟩ := h
  obtain ⟨ct54, y11, h⟩ := h
  obtain ⟨ct55, y12, h⟩ := h
  obtain ⟨o4, o5, o9, o10, o13, fin⟩ := h
  have hall : ∀ _ : Nat → Value,
    (∀ k : Nat, 0 ≤ k → k ≤ 0 → ∀ W, SR w0 { w with drawn := w.drawn + 1 } W → C k W → 
      (Ext W W ∧ C k W ∧ ir4 = ir4)
    ) ∧
    (∀ k : Nat, 0 ≤ k → k ≤ 3 → ∀ W, SR w0 { w with drawn := w.drawn + 1 } W → C k W → 
      Does Try.prog (Instr.fieldAt 87 iy6 0) W fun t44 w =>
      (Ext W w ∧ C k w ∧ t44 = ct44)
    ) ∧
    (∀ t44 : Value, ∀ k : Nat, 0 ≤ k → k ≤ 3 → ∀ W, SR w0 { w with drawn := w.drawn + 1 } W → C k W → t44 = ct44 → 
      Does Try.prog (Instr.loadAt 3 t44) W fun t45 w =>
      (Ext W w ∧ C k w ∧ t45 = ct45)
    ) ∧
    (∀ t45 : Value, ∀ k : Nat, 0 ≤ k → k ≤ 3 → ∀ W, SR w0 { w with drawn := w.drawn + 1 } W → C k W → t45 = ct45 → 
      Does Try.prog (convert 3 5 t45) W fun t46 w =>
      (Ext W w ∧ C k w ∧ t46 = ct46)
    ) ∧
    (∀ t46 : Value, ∀ k : Nat, 0 ≤ k → k ≤ 0 → ∀ W, SR w0 { w with drawn := w.drawn + 1 } W → C k W → t46 = ct46 → 
      Does Try.prog (Instr.buildSlice 34 1 #[(0, t46)]) W fun t47 w =>
      (Ext W w ∧ C k w ∧ F4 k t47 w)
    ) ∧
    (∀ t43 t47 : Value, ∀ W, SR w0 { w with drawn := w.drawn + 1 } W → C 0 W → t43 = ir4 → F4 0 t47 W → 
      Does Try.prog (Builtin.append_ #[34, 34] 34 #[t43, t47]) W fun t48 w =>
      (SR w0 W w ∧ C 1 w ∧ F5 1 t48 w ∧ (t43 = ir4 → t43 = ir4) ∧ (∀ v : Value, v = ct44 → v = ct44) ∧ (∀ v : Value, v = ct45 → v = ct45) ∧ (∀ v : Value, v = ct46 → v = ct46) ∧ (F4 0 t47 W → F4 1 t47 w) ∧ (∀ v : Value, v = ct49 → v = ct49) ∧ (∀ v : Value, v = ct50 → v = ct50) ∧ (∀ v : Value, v = ct51 → v = ct51) ∧ (∀ v : Value, v = ct54 → v = ct54) ∧ (∀ v : Value, v = ct55 → v = ct55) ∧ True)
    ) ∧
    (∀ k : Nat, 0 ≤ k → k ≤ 3 → ∀ W, SR w0 { w with drawn := w.drawn + 1 } W → C k W → 
      Does Try.prog (Instr.fieldAt 87 iy6 1) W fun t49 w =>
      (Ext W w ∧ C k w ∧ t49 = ct49)
    ) ∧
    (∀ t49 : Value, ∀ k : Nat, 0 ≤ k → k ≤ 3 → ∀ W, SR w0 { w with drawn := w.drawn + 1 } W → C k W → t49 = ct49 → 
      Does Try.prog (Instr.loadAt 9 t49) W fun t50 w =>
      (Ext W w ∧ C k w ∧ t50 = ct50)
    ) ∧
    (∀ t50 : Value, ∀ k : Nat, 0 ≤ k → k ≤ 3 → ∀ W, SR w0 { w with drawn := w.drawn + 1 } W → C k W → t50 = ct50 → 
      Does Try.prog (Builtin.len_ #[9] 3 #[t50]) W fun t51 w =>
      (Ext W w ∧ C k w ∧ t51 = ct51)
    ) ∧
    (∀ t51 : Value, ∀ k : Nat, 1 ≤ k → k ≤ 1 → ∀ W, SR w0 { w with drawn := w.drawn + 1 } W → C k W → t51 = ct51 → 
      Call Try.prog 77 #[t51] W fun t52 w =>
      (Ext W w ∧ C k w ∧ F9 k t52 w)
    ) ∧
    (∀ t48 t52 : Value, ∀ W, SR w0 { w with drawn := w.drawn + 1 } W → C 1 W → F5 1 t48 W → F9 1 t52 W → 
      Does Try.prog (Builtin.append_ #[34, 34] 34 #[t48, t52]) W fun t53 w =>
      (SR w0 W w ∧ C 2 w ∧ F10 2 t53 w ∧ (∀ v : Value, v = ir4 → v = ir4) ∧ (∀ v : Value, v = ct44 → v = ct44) ∧ (∀ v : Value, v = ct45 → v = ct45) ∧ (∀ v : Value, v = ct46 → v = ct46) ∧ (∀ v : Value, F4 1 v W → F4 2 v w) ∧ (F5 1 t48 W → F5 2 t48 w) ∧ (∀ v : Value, v = ct49 → v = ct49) ∧ (∀ v : Value, v = ct50 → v = ct50) ∧ (∀ v : Value, v = ct51 → v = ct51) ∧ (F9 1 t52 W → F9 2 t52 w) ∧ (∀ v : Value, v = ct54 → v = ct54) ∧ (∀ v : Value, v = ct55 → v = ct55) ∧ True)
    ) ∧
    (∀ k : Nat, 0 ≤ k → k ≤ 3 → ∀ W, SR w0 { w with drawn := w.drawn + 1 } W → C k W → 
      Does Try.prog (Instr.fieldAt 87 iy6 1) W fun t54 w =>
      (Ext W w ∧ C k w ∧ t54 = ct54)
    ) ∧
    (∀ t54 : Value, ∀ k : Nat, 0 ≤ k → k ≤ 2 → ∀ W, SR w0 { w with drawn := w.drawn + 1 } W → C k W → t54 = ct54 → 
      Does Try.prog (Instr.loadAt 9 t54) W fun t55 w =>
      (Ext W w ∧ C k w ∧ t55 = ct55)
    ) ∧
    (∀ t53 t55 : Value, ∀ W, SR w0 { w with drawn := w.drawn + 1 } W → C 2 W → F10 2 t53 W → t55 = ct55 → 
      Does Try.prog (Builtin.append_ #[34, 9] 34 #[t53, t55]) W fun t56 w =>
      (SR w0 W w ∧ C 3 w ∧ F13 3 t56 w ∧ (∀ v : Value, v = ir4 → v = ir4) ∧ (∀ v : Value, v = ct44 → v = ct44) ∧ (∀ v : Value, v = ct45 → v = ct45) ∧ (∀ v : Value, v = ct46 → v = ct46) ∧ (∀ v : Value, F4 2 v W → F4 3 v w) ∧ (∀ v : Value, F5 2 v W → F5 3 v w) ∧ (∀ v : Value, v = ct49 → v = ct49) ∧ (∀ v : Value, v = ct50 → v = ct50) ∧ (∀ v : Value, v = ct51 → v = ct51) ∧ (∀ v : Value, F9 2 v W → F9 3 v w) ∧ (F10 2 t53 W → F10 3 t53 w) ∧ (∀ v : Value, v = ct54 → v = ct54) ∧ (t55 = ct55 → t55 = ct55) ∧ True)
    ) ∧
    (∀ t56 : Value, ∀ k : Nat, 3 ≤ k → k ≤ 3 → ∀ W, SR w0 { w with drawn := w.drawn + 1 } W → C k W → F13 k t56 W → 
      (Ext W W ∧ C k W ∧ F13 k t56 W)
    ) ∧ True := fun _ => ⟨
    fun  k hk1 hk2 W hS hC  => (by exact ⟨Ext.refl _, hC, rfl⟩),
    fun  k hk1 hk2 W hS hC  => (by exact ⟨_, W, y1 W ⟨SR.at hw hS, k, hk1, hk2, hC⟩, Ext.refl _, hC, rfl⟩),
    fun t44 k hk1 hk2 W hS hC ht44 => (by subst ht44; exact ⟨_, W, y2 W ⟨SR.at hw hS, k, hk1, hk2, hC⟩, Ext.refl _, hC, rfl⟩),
    fun t45 k hk1 hk2 W hS hC ht45 => (by subst ht45; exact ⟨_, W, y3 W ⟨SR.at hw hS, k, hk1, hk2, hC⟩, Ext.refl _, hC, rfl⟩),
    fun t46 k hk1 hk2 W hS hC ht46 => (by obtain rfl : k = 0 := (by omega); subst ht46; exact o4  W (SR.at hw hS) hC ),
    fun t43 t47 W hS hC ht43 ht47 => (by subst ht43; exact Does.mono (o5 t47 W (SR.at hw hS) hC ht47) fun _ _ h => ⟨SR.of h.1, h.2.1, h.2.2.1, fun h => h, fun _ h => h, fun _ h => h, fun _ h => h, h.2.2.2.1, fun _ h => h, fun _ h => h, fun _ h => h, fun _ h => h, fun _ h => h, trivial⟩),
    fun  k hk1 hk2 W hS hC  => (by exact ⟨_, W, y6 W ⟨SR.at hw hS, k, hk1, hk2, hC⟩, Ext.refl _, hC, rfl⟩),
    fun t49 k hk1 hk2 W hS hC ht49 => (by subst ht49; exact ⟨_, W, y7 W ⟨SR.at hw hS, k, hk1, hk2, hC⟩, Ext.refl _, hC, rfl⟩),
    fun t50 k hk1 hk2 W hS hC ht50 => (by subst ht50; exact ⟨_, W, y8 W ⟨SR.at hw hS, k, hk1, hk2, hC⟩, Ext.refl _, hC, rfl⟩),
    fun t51 k hk1 hk2 W hS hC ht51 => (by obtain rfl : k = 1 := (by omega); subst ht51; exact o9  W (SR.at hw hS) hC ),
    fun t48 t52 W hS hC ht48 ht52 => (by exact Does.mono (o10 t48 t52 W (SR.at hw hS) hC ht48 ht52) fun _ _ h => ⟨SR.of h.1, h.2.1, h.2.2.1, fun _ h => h, fun _ h => h, fun _ h => h, fun _ h => h, h.2.2.2.1, h.2.2.2.2.1, fun _ h => h, fun _ h => h, fun _ h => h, h.2.2.2.2.2.1, fun _ h => h, fun _ h => h, trivial⟩),
    fun  k hk1 hk2 W hS hC  => (by exact ⟨_, W, y11 W ⟨SR.at hw hS, k, hk1, hk2, hC⟩, Ext.refl _, hC, rfl⟩),
    fun t54 k hk1 hk2 W hS hC ht54 => (by subst ht54; exact ⟨_, W, y12 W ⟨SR.at hw hS, k, hk1, hk2, hC⟩, Ext.refl _, hC, rfl⟩),
    fun t53 t55 W hS hC ht53 ht55 => (by subst ht55; exact Does.mono (o13 t53 W (SR.at hw hS) hC ht53) fun _ _ h => ⟨SR.of h.1, h.2.1, h.2.2.1, fun _ h => h, fun _ h => h, fun _ h => h, fun _ h => h, h.2.2.2.1, h.2.2.2.2.1, fun _ h => h, fun _ h => h, fun _ h => h, h.2.2.2.2.2.1, h.2.2.2.2.2.2.1, fun _ h => h, fun h => h, trivial⟩),
    fun t56 k hk1 hk2 W hS hC ht56 => ⟨Ext.refl _, hC, ht56⟩,
    trivial⟩
  have hst := lkF2_st (S := Ext) (l := [(0, fun _ v _ => v = ir4), (1, fun _ v _ => v = ct44), (2, fun _ v _ => v = ct45), (3, fun _ v _ => v = ct46), (4, F4), (5, F5), (6, fun _ v _ => v = ct49), (7, fun _ v _ => v = ct50), (8, fun _ v _ => v = ct51), (9, F9), (10, F10), (11, fun _ v _ => v = ct54), (12, fun _ v _ => v = ct55), (13, F13), (14, F13)]) (fun p hp => by
    simp only [List.mem_cons, List.not_mem_nil, or_false] at hp
    rcases hp with rfl | rfl | rfl | rfl | rfl | rfl | rfl | rfl | rfl | rfl | rfl | rfl | rfl | rfl | rfl
    · exact fun _ => FSt.const _
    · exact fun _ => FSt.const _
    · exact fun _ => FSt.const _
    · exact fun _ => FSt.const _
    · exact s4
    · exact s5
    · exact fun _ => FSt.const _
    · exact fun _ => FSt.const _
    · exact fun _ => FSt.const _
    · exact s9
    · exact s10
    · exact fun _ => FSt.const _
    · exact fun _ => FSt.const _
    · exact s13
    · exact s13
    )
  have hf : ∀ r4 : Value, ∀ W, SR w0 { w with drawn := w.drawn + 1 } W → C 3 W → F13 3 r4 W → J r4 W := fun r4 W hS hC hr4 => (by exact fin r4 W (SR.at hw hS) hC hr4)
  exact draw_phi2 (T := [5, 10, 13]) Ext (SR w0) C (lkF2 [(0, fun _ v _ => v = ir4), (1, fun _ v _ => v = ct44), (2, fun _ v _ => v = ct45), (3, fun _ v _ => v = ct46), (4, F4), (5, F5), (6, fun _ v _ => v = ct49), (7, fun _ v _ => v = ct50), (8, fun _ v _ => v = ct51), (9, F9), (10, F10), (11, fun _ v _ => v = ct54), (12, fun _ v _ => v = ct55), (13, F13), (14, F13)]) (by kernel_rfl) (SR.refl w0) (fun _ _ _ => SR.trans) (fun _ _ => SR.ofExt) hst h0 (Eq.mp (by kernel_rfl) hall) (Eq.mp (by kernel_rfl) hf)

theorem h56_16 {io1 ir4 : Value} {w : World} {J : VF 1} (w0 : World) (C : Nat → World → Prop) (F3 F4 F9 F10 : Nat → Value → World → Prop) 
    (hw : Ext w0 w) (s3 : ∀ k, FSt Ext (F3 k)) (s4 : ∀ k, FSt Ext (F4 k)) (s9 : ∀ k, FSt Ext (F9 k)) (s10 : ∀ k, FSt Ext (F10 k)) (h0 : C 0 { w with drawn := w.drawn + 1 })
    (h :     Quiet Try.prog (Stg w0 w C 0 2) (Instr.fieldAt 38 io1 3) w fun t65 w =>
    Quiet Try.prog (Stg w0 w C 0 2) (Instr.loadAt 9 t65) w fun t66 w =>
    Quiet Try.prog (Stg w0 w C 0 2) (Instr.fieldAt 38 io1 4) w fun t69 w =>
    Quiet Try.prog (Stg w0 w C 0 2) (Instr.loadAt 23 t69) w fun t70 w =>
    Quiet Try.prog (Stg w0 w C 0 2) (Builtin.len_ #[23] 3 #[t70]) w fun t71 w =>
    Quiet Try.prog (Stg w0 w C 0 2) (convert 3 5 t71) w fun t72 w =>
    (∀ W, At w0 w W → C 0 W → 
      Call Try.prog 78 #[t66] W fun t67 w =>
      (Ext W w ∧ C 0 w ∧ F3 0 t67 w)
    ) ∧
    (∀ t67 : Value, ∀ W, At w0 w W → C 0 W → F3 0 t67 W → 
      Does Try.prog (Builtin.append_ #[34, 34] 34 #[ir4, t67]) W fun t68 w =>
      (At w0 W w ∧ C 1 w ∧ F4 1 t68 w ∧ (F3 0 t67 W → F3 1 t67 w) ∧ (∀ v, F9 0 v W → F9 1 v w) ∧ True)
    ) ∧
    (∀ k : Nat, 0 ≤ k → k ≤ 1 → ∀ W, At w0 w W → C k W → 
      Does Try.prog (Instr.buildSlice 34 1 #[(0, t72)]) W fun t73 w =>
      (Ext W w ∧ C k w ∧ F9 k t73 w)
    ) ∧
    (∀ t68 t73 : Value, ∀ W, At w0 w W → C 1 W → F4 1 t68 W → F9 1 t73 W → 
      Does Try.prog (Builtin.append_ #[34, 34] 34 #[t68, t73]) W fun t74 w =>
      (At w0 W w ∧ C 2 w ∧ F10 2 t74 w ∧ (∀ v, F3 1 v W → F3 2 v w) ∧ (F4 1 t68 W → F4 2 t68 w) ∧ (F9 1 t73 W → F9 2 t73 w) ∧ True)
    ) ∧
    (∀ r4 : Value, ∀ W, At w0 w W → C 2 W → F10 2 r4 W → J r4 W)) :
    DrawP Try.prog 109 (opsOf Try.f56 16) [1, 4] [io1, ir4] [4] J w := by
  obtain ⟨ct65, y1, h⟩ := h
  obtain ⟨ct66, y2, h⟩ := h
  obtain ⟨ct69, y5, h⟩ := h
  obtain ⟨ct70, y6, h⟩ := h
  obtain ⟨ct71, y7, h⟩ := h
  obtain ⟨ct72, y8, h⟩ := h
  obtain ⟨o3, o4, o9, o10, fin⟩ := h
  have hall : ∀ _ : Nat → Value,
    (∀ k : Nat, 0 ≤ k → k ≤ 0 → ∀ W, SR w0 { w with drawn := w.drawn + 1 } W → C k W → 
      (Ext W W ∧ C k W ∧ ir4 = ir4)
    ) ∧
    (∀ k : Nat, 0 ≤ k → k ≤ 2 → ∀ W, SR w0 { w with drawn := w.drawn + 1 } W → C k W → 
      Does Try.prog (Instr.fieldAt 38 io1 3) W fun t65 w =>
      (Ext W w ∧ C k w ∧ t65 = ct65)
    ) ∧
    (∀ t65 : Value, ∀ k : Nat, 0 ≤ k → k ≤ 2 → ∀ W, SR w0 { w with drawn := w.drawn + 1 } W → C k W → t65 = ct65 → 
      Does Try.prog (Instr.loadAt 9 t65) W fun t66 w =>
      (Ext W w ∧ C k w ∧ t66 = ct66)
    ) ∧
    (∀ t66 : Value, ∀ k : Nat, 0 ≤ k → k ≤ 0 → ∀ W, SR w0 { w with drawn := w.drawn + 1 } W → C k W → t66 = ct66 → 
      Call Try.prog 78 #[t66] W fun t67 w =>
      (Ext W w ∧ C k w ∧ F3 k t67 w)
    ) ∧
    (∀ t64 t67 : Value, ∀ W, SR w0 { w with drawn := w.drawn + 1 } W → C 0 W → t64 = ir4 → F3 0 t67 W → 
      Does Try.prog (Builtin.append_ #[34, 34] 34 #[t64, t67]) W fun t68 w =>
      (SR w0 W w ∧ C 1 w ∧ F4 1 t68 w ∧ (t64 = ir4 → t64 = ir4) ∧ (∀ v : Value, v = ct65 → v = ct65) ∧ (∀ v : Value, v = ct66 → v = ct66) ∧ (F3 0 t67 W → F3 1 t67 w) ∧ (∀ v : Value, v = ct69 → v = ct69) ∧ (∀ v : Value, v = ct70 → v = ct70) ∧ (∀ v : Value, v = ct71 → v = ct71) ∧ (∀ v : Value, v = ct72 → v = ct72) ∧ (∀ v : Value, F9 0 v W → F9 1 v w) ∧ True)
    ) ∧
    (∀ k : Nat, 0 ≤ k → k ≤ 2 → ∀ W, SR w0 { w with drawn := w.drawn + 1 } W → C k W → 
      Does Try.prog (Instr.fieldAt 38 io1 4) W fun t69 w =>
      (Ext W w ∧ C k w ∧ t69 = ct69)
    ) ∧
    (∀ t69 : Value, ∀ k : Nat, 0 ≤ k → k ≤ 2 → ∀ W, SR w0 { w with drawn := w.drawn + 1 } W → C k W → t69 = ct69 → 
      Does Try.prog (Instr.loadAt 23 t69) W fun t70 w =>
      (Ext W w ∧ C k w ∧ t70 = ct70)
    ) ∧
    (∀ t70 : Value, ∀ k : Nat, 0 ≤ k → k ≤ 2 → ∀ W, SR w0 { w with drawn := w.drawn + 1 } W → C k W → t70 = ct70 → 
      Does Try.prog (Builtin.len_ #[23] 3 #[t70]) W fun t71 w =>
      (Ext W w ∧ C k w ∧ t71 = ct71)
    ) ∧
    (∀ t71 : Value, ∀ k : Nat, 0 ≤ k → k ≤ 2 → ∀ W, SR w0 { w with drawn := w.drawn + 1 } W → C k W → t71 = ct71 → 
      Does Try.prog (convert 3 5 t71) W fun t72 w =>
      (Ext W w ∧ C k w ∧ t72 = ct72)
    ) ∧
    (∀ t72 : Value, ∀ k : Nat, 0 ≤ k → k ≤ 1 → ∀ W, SR w0 { w with drawn := w.drawn + 1 } W → C k W → t72 = ct72 → 
      Does Try.prog (Instr.buildSlice 34 1 #[(0, t72)]) W fun t73 w =>
      (Ext W w ∧ C k w ∧ F9 k t73 w)
    ) ∧
    (∀ t68 t73 : Value, ∀ W, SR w0 { w with drawn := w.drawn + 1 } W → C 1 W → F4 1 t68 W → F9 1 t73 W → 
      Does Try.prog (Builtin.append_ #[34, 34] 34 #[t68, t73]) W fun t74 w =>
      (SR w0 W w ∧ C 2 w ∧ F10 2 t74 w ∧ (∀ v : Value, v = ir4 → v = ir4) ∧ (∀ v : Value, v = ct65 → v = ct65) ∧ (∀ v : Value, v = ct66 → v = ct66) ∧ (∀ v : Value, F3 1 v W → F3 2 v w) ∧ (F4 1 t68 W → F4 2 t68 w) ∧ (∀ v : Value, v = ct69 → v = ct69) ∧ (∀ v : Value, v = ct70 → v = ct70) ∧ (∀ v : Value, v = ct71 → v = ct71) ∧ (∀ v : Value, v = ct72 → v = ct72) ∧ (F9 1 t73 W → F9 2 t73 w) ∧ True)
    ) ∧
    (∀ t74 : Value, ∀ k : Nat, 2 ≤ k → k ≤ 2 → ∀ W, SR w0 { w with drawn := w.drawn + 1 } W → C k W → F10 k t74 W → 
      (Ext W W ∧ C k W ∧ F10 k t74 W)
    ) ∧ True := fun _ => ⟨
    fun  k hk1 hk2 W hS hC  => (by exact ⟨Ext.refl _, hC, rfl⟩),
    fun  k hk1 hk2 W hS hC  => (by exact ⟨_, W, y1 W ⟨SR.at hw hS, k, hk1, hk2, hC⟩, Ext.refl _, hC, rfl⟩),
    fun t65 k hk1 hk2 W hS hC ht65 => (by subst ht65; exact ⟨_, W, y2 W ⟨SR.at hw hS, k, hk1, hk2, hC⟩, Ext.refl _, hC, rfl⟩),
    fun t66 k hk1 hk2 W hS hC ht66 => (by obtain rfl : k = 0 := (by omega); subst ht66; exact o3  W (SR.at hw hS) hC ),
    fun t64 t67 W hS hC ht64 ht67 => (by subst ht64; exact Does.mono (o4 t67 W (SR.at hw hS) hC ht67) fun _ _ h => ⟨SR.of h.1, h.2.1, h.2.2.1, fun h => h, fun _ h => h, fun _ h => h, h.2.2.2.1, fun _ h => h, fun _ h => h, fun _ h => h, fun _ h => h, h.2.2.2.2.1, trivial⟩),
    fun  k hk1 hk2 W hS hC  => (by exact ⟨_, W, y5 W ⟨SR.at hw hS, k, hk1, hk2, hC⟩, Ext.refl _, hC, rfl⟩),
    fun t69 k hk1 hk2 W hS hC ht69 => (by subst ht69; exact ⟨_, W, y6 W ⟨SR.at hw hS, k, hk1, hk2, hC⟩, Ext.refl _, hC, rfl⟩),
    fun t70 k hk1 hk2 W hS hC ht70 => (by subst ht70; exact ⟨_, W, y7 W ⟨SR.at hw hS, k, hk1, hk2, hC⟩, Ext.refl _, hC, rfl⟩),
    fun t71 k hk1 hk2 W hS hC ht71 => (by subst ht71; exact ⟨_, W, y8 W ⟨SR.at hw hS, k, hk1, hk2, hC⟩, Ext.refl _, hC, rfl⟩),
    fun t72 k hk1 hk2 W hS hC ht72 => (by subst ht72; exact o9  k hk1 hk2 W (SR.at hw hS) hC ),
    fun t68 t73 W hS hC ht68 ht73 => (by exact Does.mono (o10 t68 t73 W (SR.at hw hS) hC ht68 ht73) fun _ _ h => ⟨SR.of h.1, h.2.1, h.2.2.1, fun _ h => h, fun _ h => h, fun _ h => h, h.2.2.2.1, h.2.2.2.2.1, fun _ h => h, fun _ h => h, fun _ h => h, fun _ h => h, h.2.2.2.2.2.1, trivial⟩),
    fun t74 k hk1 hk2 W hS hC ht74 => ⟨Ext.refl _, hC, ht74⟩,
    trivial⟩
  have hst := lkF2_st (S := Ext) (l := [(0, fun _ v _ => v = ir4), (1, fun _ v _ => v = ct65), (2, fun _ v _ => v = ct66), (3, F3), (4, F4), (5, fun _ v _ => v = ct69), (6, fun _ v _ => v = ct70), (7, fun _ v _ => v = ct71), (8, fun _ v _ => v = ct72), (9, F9), (10, F10), (11, F10)]) (fun p hp => by
    simp only [List.mem_cons, List.not_mem_nil, or_false] at hp
    rcases hp with rfl | rfl | rfl | rfl | rfl | rfl | rfl | rfl | rfl | rfl | rfl | rfl
    · exact fun _ => FSt.const _
    · exact fun _ => FSt.const _
    · exact fun _ => FSt.const _
    · exact s3
    · exact s4
    · exact fun _ => FSt.const _
    · exact fun _ => FSt.const _
    · exact fun _ => FSt.const _
    · exact fun _ => FSt.const _
    · exact s9
    · exact s10
    · exact s10
    )
  have hf : ∀ r4 : Value, ∀ W, SR w0 { w with drawn := w.drawn + 1 } W → C 2 W → F10 2 r4 W → J r4 W := fun r4 W hS hC hr4 => (by exact fin r4 W (SR.at hw hS) hC hr4)
  exact draw_phi2 (T := [4, 10]) Ext (SR w0) C (lkF2 [(0, fun _ v _ => v = ir4), (1, fun _ v _ => v = ct65), (2, fun _ v _ => v = ct66), (3, F3), (4, F4), (5, fun _ v _ => v = ct69), (6, fun _ v _ => v = ct70), (7, fun _ v _ => v = ct71), (8, fun _ v _ => v = ct72), (9, F9), (10, F10), (11, F10)]) (by kernel_rfl) (SR.refl w0) (fun _ _ _ => SR.trans) (fun _ _ => SR.ofExt) hst h0 (Eq.mp (by kernel_rfl) hall) (Eq.mp (by kernel_rfl) hf)

theorem h56_21 {io1 ir4 : Value} {w : World} {J : VF 1} (w0 : World) (C : Nat → World → Prop) (F3 F4 F7 F8 F12 F13 : Nat → Value → World → Prop) 
    (hw : Ext w0 w) (s3 : ∀ k, FSt Ext (F3 k)) (s4 : ∀ k, FSt Ext (F4 k)) (s7 : ∀ k, FSt Ext (F7 k)) (s8 : ∀ k, FSt Ext (F8 k)) (s12 : ∀ k, FSt Ext (F12 k)) (s13 : ∀ k, FSt Ext (F13 k)) (h0 : C 0 { w with drawn := w.drawn + 1 })
    (h :     Quiet Try.prog (Stg w0 w C 0 3) (Instr.fieldAt 38 io1 5) w fun t91 w =>
    Quiet Try.prog (Stg w0 w C 0 3) (Instr.loadAt 3 t91) w fun t92 w =>
    Quiet Try.prog (Stg w0 w C 0 3) (Instr.fieldAt 38 io1 6) w fun t95 w =>
    Quiet Try.prog (Stg w0 w C 0 3) (Instr.loadAt 3 t95) w fun t96 w =>
    Quiet Try.prog (Stg w0 w C 0 3) (Instr.fieldAt 38 io1 7) w fun t99 w =>
    Quiet Try.prog (Stg w0 w C 0 3) (Instr.loadAt 9 t99) w fun t100 w =>
    Quiet Try.prog (Stg w0 w C 0 3) (Builtin.len_ #[9] 3 #[t100]) w fun t101 w =>
    (∀ W, At w0 w W → C 0 W → 
      Call Try.prog 77 #[t92] W fun t93 w =>
      (Ext W w ∧ C 0 w ∧ F3 0 t93 w)
    ) ∧
    (∀ t93 : Value, ∀ W, At w0 w W → C 0 W → F3 0 t93 W → 
      Does Try.prog (Builtin.append_ #[34, 34] 34 #[ir4, t93]) W fun t94 w =>
      (At w0 W w ∧ C 1 w ∧ F4 1 t94 w ∧ (F3 0 t93 W → F3 1 t93 w) ∧ True)
    ) ∧
    (∀ W, At w0 w W → C 1 W → 
      Call Try.prog 77 #[t96] W fun t97 w =>
      (Ext W w ∧ C 1 w ∧ F7 1 t97 w)
    ) ∧
    (∀ t94 t97 : Value, ∀ W, At w0 w W → C 1 W → F4 1 t94 W → F7 1 t97 W → 
      Does Try.prog (Builtin.append_ #[34, 34] 34 #[t94, t97]) W fun t98 w =>
      (At w0 W w ∧ C 2 w ∧ F8 2 t98 w ∧ (∀ v, F3 1 v W → F3 2 v w) ∧ (F4 1 t94 W → F4 2 t94 w) ∧ (F7 1 t97 W → F7 2 t97 w) ∧ True)
    ) ∧
    (∀ W, At w0 w W → C 2 W → 
      Call Try.prog 77 #[t101] W fun t102 w =>
      (Ext W w ∧ C 2 w ∧ F12 2 t102 w)
    ) ∧
    (∀ t98 t102 : Value, ∀ W, At w0 w W → C 2 W → F8 2 t98 W → F12 2 t102 W → 
      Does Try.prog (Builtin.append_ #[34, 34] 34 #[t98, t102]) W fun t103 w =>
      (At w0 W w ∧ C 3 w ∧ F13 3 t103 w ∧ (∀ v, F3 2 v W → F3 3 v w) ∧ (∀ v, F4 2 v W → F4 3 v w) ∧ (∀ v, F7 2 v W → F7 3 v w) ∧ (F8 2 t98 W → F8 3 t98 w) ∧ (F12 2 t102 W → F12 3 t102 w) ∧ True)
    ) ∧
    (∀ r4 : Value, ∀ W, At w0 w W → C 3 W → F13 3 r4 W → J r4 W)) :
    DrawP Try.prog 109 (opsOf Try.f56 21) [1, 4] [io1, ir4] [4] J w := by
  obtain ⟨ct91, y1, h⟩ := h
  obtain ⟨ct92, y2, h⟩ := h
  obtain ⟨ct95, y5, h⟩ := h
  obtain ⟨ct96, y6, h⟩ := h
  obtain ⟨ct99, y9, h⟩ := h
  obtain ⟨ct100, y10, h⟩ := h
  obtain ⟨ct101, y11, h⟩ := h
  obtain ⟨o3, o4, o7, o8, o12, o13, fin⟩ := h
  have hall : ∀ _ : Nat → Value,
    (∀ k : Nat, 0 ≤ k → k ≤ 0 → ∀ W, SR w0 { w with drawn := w.drawn + 1 } W → C k W → 
      (Ext W W ∧ C k W ∧ ir4 = ir4)
    ) ∧
    (∀ k : Nat, 0 ≤ k → k ≤ 3 → ∀ W, SR w0 { w with drawn := w.drawn + 1 } W → C k W → 
      Does Try.prog (Instr.fieldAt 38 io1 5) W fun t91 w =>
      (Ext W w ∧ C k w ∧ t91 = ct91)
    ) ∧
    (∀ t91 : Value, ∀ k : Nat, 0 ≤ k → k ≤ 3 → ∀ W, SR w0 { w with drawn := w.drawn + 1 } W → C k W → t91 = ct91 → 
      Does Try.prog (Instr.loadAt 3 t91) W fun t92 w =>
      (Ext W w ∧ C k w ∧ t92 = ct92)
    ) ∧
    (∀ t92 : Value, ∀ k : Nat, 0 ≤ k → k ≤ 0 → ∀ W, SR w0 { w with drawn := w.drawn + 1 } W → C k W → t92 = ct92 → 
      Call Try.prog 77 #[t92] W fun t93 w =>
      (Ext W w ∧ C k w ∧ F3 k t93 w)
    ) ∧
    (∀ t90 t93 : Value, ∀ W, SR w0 { w with drawn := w.drawn + 1 } W → C 0 W → t90 = ir4 → F3 0 t93 W → 
      Does Try.prog (Builtin.append_ #[34, 34] 34 #[t90, t93]) W fun t94 w =>
      (SR w0 W w ∧ C 1 w ∧ F4 1 t94 w ∧ (t90 = ir4 → t90 = ir4) ∧ (∀ v : Value, v = ct91 → v = ct91) ∧ (∀ v : Value, v = ct92 → v = ct92) ∧ (F3 0 t93 W → F3 1 t93 w) ∧ (∀ v : Value, v = ct95 → v = ct95) ∧ (∀ v : Value, v = ct96 → v = ct96) ∧ (∀ v : Value, v = ct99 → v = ct99) ∧ (∀ v : Value, v = ct100 → v = ct100) ∧ (∀ v : Value, v = ct101 → v = ct101) ∧ True)
    ) ∧
    (∀ k : Nat, 0 ≤ k → k ≤ 3 → ∀ W, SR w0 { w with drawn := w.drawn + 1 } W → C k W → 
      Does Try.prog (Instr.fieldAt 38 io1 6) W fun t95 w =>
      (Ext W w ∧ C k w ∧ t95 = ct95)
    ) ∧
    (∀ t95 : Value, ∀ k : Nat, 0 ≤ k → k ≤ 3 → ∀ W, SR w0 { w with drawn := w.drawn + 1 } W → C k W → t95 = ct95 → 
      Does Try.prog (Instr.loadAt 3 t95) W fun t96 w =>
      (Ext W w ∧ C k w ∧ t96 = ct96)
    ) ∧
    (∀ t96 : Value, ∀ k : Nat, 1 ≤ k → k ≤ 1 → ∀ W, SR w0 { w with drawn := w.drawn + 1 } W → C k W → t96 = ct96 → 
      Call Try.prog 77 #[t96] W fun t97 w =>
      (Ext W w ∧ C k w ∧ F7 k t97 w)
    ) ∧
    (∀ t94 t97 : Value, ∀ W, SR w0 { w with drawn := w.drawn + 1 } W → C 1 W → F4 1 t94 W → F7 1 t97 W → 
      Does Try.prog (Builtin.append_ #[34, 34] 34 #[t94, t97]) W fun t98 w =>
      (SR w0 W w ∧ C 2 w ∧ F8 2 t98 w ∧ (∀ v : Value, v = ir4 → v = ir4) ∧ (∀ v : Value, v = ct91 → v = ct91) ∧ (∀ v : Value, v = ct92 → v = ct92) ∧ (∀ v : Value, F3 1 v W → F3 2 v w) ∧ (F4 1 t94 W → F4 2 t94 w) ∧ (∀ v : Value, v = ct95 → v = ct95) ∧ (∀ v : Value, v = ct96 → v = ct96) ∧ (F7 1 t97 W → F7 2 t97 w) ∧ (∀ v : Value, v = ct99 → v = ct99) ∧ (∀ v : Value, v = ct100 → v = ct100) ∧ (∀ v : Value, v = ct101 → v = ct101) ∧ True)
    ) ∧
    (∀ k : Nat, 0 ≤ k → k ≤ 3 → ∀ W, SR w0 { w with drawn := w.drawn + 1 } W → C k W → 
      Does Try.prog (Instr.fieldAt 38 io1 7) W fun t99 w =>
      (Ext W w ∧ C k w ∧ t99 = ct99)
    ) ∧
    (∀ t99 : Value, ∀ k : Nat, 0 ≤ k → k ≤ 3 → ∀ W, SR w0 { w with drawn := w.drawn + 1 } W → C k W → t99 = ct99 → 
      Does Try.prog (Instr.loadAt 9 t99) W fun t100 w =>
      (Ext W w ∧ C k w ∧ t100 = ct100)
    ) ∧
    (∀ t100 : Value, ∀ k : Nat, 0 ≤ k → k ≤ 3 → ∀ W, SR w0 { w with drawn := w.drawn + 1 } W → C k W → t100 = ct100 → 
      Does Try.prog (Builtin.len_ #[9] 3 #[t100]) W fun t101 w =>
      (Ext W w ∧ C k w ∧ t101 = ct101)
    ) ∧
    (∀ t101 : Value, ∀ k : Nat, 2 ≤ k → k ≤ 2 → ∀ W, SR w0 { w with drawn := w.drawn + 1 } W → C k W → t101 = ct101 → 
      Call Try.prog 77 #[t101] W fun t102 w =>
      (Ext W w ∧ C k w ∧ F12 k t102 w)
    ) ∧
    (∀ t98 t102 : Value, ∀ W, SR w0 { w with drawn := w.drawn + 1 } W → C 2 W → F8 2 t98 W → F12 2 t102 W → 
      Does Try.prog (Builtin.append_ #[34, 34] 34 #[t98, t102]) W fun t103 w =>
      (SR w0 W w ∧ C 3 w ∧ F13 3 t103 w ∧ (∀ v : Value, v = ir4 → v = ir4) ∧ (∀ v : Value, v = ct91 → v = ct91) ∧ (∀ v : Value, v = ct92 → v = ct92) ∧ (∀ v : Value, F3 2 v W → F3 3 v w) ∧ (∀ v : Value, F4 2 v W → F4 3 v w) ∧ (∀ v : Value, v = ct95 → v = ct95) ∧ (∀ v : Value, v = ct96 → v = ct96) ∧ (∀ v : Value, F7 2 v W → F7 3 v w) ∧ (F8 2 t98 W → F8 3 t98 w) ∧ (∀ v : Value, v = ct99 → v = ct99) ∧ (∀ v : Value, v = ct100 → v = ct100) ∧ (∀ v : Value, v = ct101 → v = ct101) ∧ (F12 2 t102 W → F12 3 t102 w) ∧ True)
    ) ∧
    (∀ t103 : Value, ∀ k : Nat, 3 ≤ k → k ≤ 3 → ∀ W, SR w0 { w with drawn := w.drawn + 1 } W → C k W → F13 k t103 W → 
      (Ext W W ∧ C k W ∧ F13 k t103 W)
    ) ∧ True := fun _ => ⟨
    fun  k hk1 hk2 W hS hC  => (by exact ⟨Ext.refl _, hC, rfl⟩),
    fun  k hk1 hk2 W hS hC  => (by exact ⟨_, W, y1 W ⟨SR.at hw hS, k, hk1, hk2, hC⟩, Ext.refl _, hC, rfl⟩),
    fun t91 k hk1 hk2 W hS hC ht91 => (by subst ht91; exact ⟨_, W, y2 W ⟨SR.at hw hS, k, hk1, hk2, hC⟩, Ext.refl _, hC, rfl⟩),
    fun t92 k hk1 hk2 W hS hC ht92 => (by obtain rfl : k = 0 := (by omega); subst ht92; exact o3  W (SR.at hw hS) hC ),
    fun t90 t93 W hS hC ht90 ht93 => (by subst ht90; exact Does.mono (o4 t93 W (SR.at hw hS) hC ht93) fun _ _ h => ⟨SR.of h.1, h.2.1, h.2.2.1, fun h => h, fun _ h => h, fun _ h => h, h.2.2.2.1, fun _ h => h, fun _ h => h, fun _ h => h, fun _ h => h, fun _ h => h, trivial⟩),
    fun  k hk1 hk2 W hS hC  => (by exact ⟨_, W, y5 W ⟨SR.at hw hS, k, hk1, hk2, hC⟩, Ext.refl _, hC, rfl⟩),
    fun t95 k hk1 hk2 W hS hC ht95 => (by subst ht95; exact ⟨_, W, y6 W ⟨SR.at hw hS, k, hk1, hk2, hC⟩, Ext.refl _, hC, rfl⟩),
    fun t96 k hk1 hk2 W hS hC ht96 => (by obtain rfl : k = 1 := (by omega); subst ht96; exact o7  W (SR.at hw hS) hC ),
    fun t94 t97 W hS hC ht94 ht97 => (by exact Does.mono (o8 t94 t97 W (SR.at hw hS) hC ht94 ht97) fun _ _ h => ⟨SR.of h.1, h.2.1, h.2.2.1, fun _ h => h, fun _ h => h, fun _ h => h, h.2.2.2.1, h.2.2.2.2.1, fun _ h => h, fun _ h => h, h.2.2.2.2.2.1, fun _ h => h, fun _ h => h, fun _ h => h, trivial⟩),
    fun  k hk1 hk2 W hS hC  => (by exact ⟨_, W, y9 W ⟨SR.at hw hS, k, hk1, hk2, hC⟩, Ext.refl _, hC, rfl⟩),
    fun t99 k hk1 hk2 W hS hC ht99 => (by subst ht99; exact ⟨_, W, y10 W ⟨SR.at hw hS, k, hk1, hk2, hC⟩, Ext.refl _, hC, rfl⟩),
    fun t100 k hk1 hk2 W hS hC ht100 => (by subst ht100; exact ⟨_, W, y11 W ⟨SR.at hw hS, k, hk1, hk2, hC⟩, Ext.refl _, hC, rfl⟩),
    fun t101 k hk1 hk2 W hS hC ht101 => (by obtain rfl : k = 2 := (by omega); subst ht101; exact o12  W (SR.at hw hS) hC ),
    fun t98 t102 W hS hC ht98 ht102 => (by exact Does.mono (o13 t98 t102 W (SR.at hw hS) hC ht98 ht102) fun _ _ h => ⟨SR.of h.1, h.2.1, h.2.2.1, fun _ h => h, fun _ h => h, fun _ h => h, h.2.2.2.1, h.2.2.2.2.1, fun _ h => h, fun _ h => h, h.2.2.2.2.2.1, h.2.2.2.2.2.2.1, fun _ h => h, fun _ h => h, fun _ h => h, h.2.2.2.2.2.2.2.1, trivial⟩),
    fun t103 k hk1 hk2 W hS hC ht103 => ⟨Ext.refl _, hC, ht103⟩,
    trivial⟩
  have hst := lkF2_st (S := Ext) (l := [(0, fun _ v _ => v = ir4), (1, fun _ v _ => v = ct91), (2, fun _ v _ => v = ct92), (3, F3), (4, F4), (5, fun _ v _ => v = ct95), (6, fun _ v _ => v = ct96), (7, F7), (8, F8), (9, fun _ v _ => v = ct99), (10, fun _ v _ => v = ct100), (11, fun _ v _ => v = ct101), (12, F12), (13, F13), (14, F13)]) (fun p hp => by
    simp only [List.mem_cons, List.not_mem_nil, or_false] at hp
    rcases hp with rfl | rfl | rfl | rfl | rfl | rfl | rfl | rfl | rfl | rfl | rfl | rfl | rfl | rfl | rfl
    · exact fun _ => FSt.const _
    · exact fun _ => FSt.const _
    · exact fun _ => FSt.const _
    · exact s3
    · exact s4
    · exact fun _ => FSt.const _
    · exact fun _ => FSt.const _
    · exact s7
    · exact s8
    · exact fun _ => FSt.const _
    · exact fun _ => FSt.const _
    · exact fun _ => FSt.const _
    · exact s12
    · exact s13
    · exact s13
    )
  have hf : ∀ r4 : Value, ∀ W, SR w0 { w with drawn := w.drawn + 1 } W → C 3 W → F13 3 r4 W → J r4 W := fun r4 W hS hC hr4 => (by exact fin r4 W (SR.at hw hS) hC hr4)
  exact draw_phi2 (T := [4, 8, 13]) Ext (SR w0) C (lkF2 [(0, fun _ v _ => v = ir4), (1, fun _ v _ => v = ct91), (2, fun _ v _ => v = ct92), (3, F3), (4, F4), (5, fun _ v _ => v = ct95), (6, fun _ v _ => v = ct96), (7, F7), (8, F8), (9, fun _ v _ => v = ct99), (10, fun _ v _ => v = ct100), (11, fun _ v _ => v = ct101), (12, F12), (13, F13), (14, F13)]) (by kernel_rfl) (SR.refl w0) (fun _ _ _ => SR.trans) (fun _ _ => SR.ofExt) hst h0 (Eq.mp (by kernel_rfl) hall) (Eq.mp (by kernel_rfl) hf)

theorem h94_13 {ia5 iy6 it9 it10 : Value} {w : World} {J : VF 0} (w0 : World) (C : Nat → World → Prop) (F5 F6 F7 F8 : Nat → Value → World → Prop) 
    (hw : Ext w0 w) (s5 : ∀ k, FSt Ext (F5 k)) (s6 : ∀ k, FSt Ext (F6 k)) (s7 : ∀ k, FSt Ext (F7 k)) (s8 : ∀ k, FSt Ext (F8 k)) (h0 : C 0 { w with drawn := w.drawn + 1 })
    (h :     Quiet Try.prog (Stg w0 w C 0 2) (Instr.fieldAt 72 ia5 2) w fun t47 w =>
    Quiet Try.prog (Stg w0 w C 0 1) (Instr.loadAt 70 t47) w fun t48 w =>
    Quiet Try.prog (Stg w0 w C 2 2) (Instr.fieldAt 72 ia5 2) w fun t56 w =>
    (∀ W, At w0 w W → C 0 W → 
      Call Try.prog 113 #[iy6] W fun t52 w =>
      (At w0 W w ∧ C 1 w ∧ F5 1 t52 w ∧ (∀ v, F7 0 v W → F7 1 v w) ∧ True)
    ) ∧
    (∀ t52 : Value, ∀ k : Nat, 1 ≤ k → k ≤ 2 → ∀ W, At w0 w W → C k W → F5 k t52 W → 
      Does Try.prog (Instr.build 106 #[(0, it9), (1, it10), (2, t52)]) W fun t53 w =>
      (Ext W w ∧ C k w ∧ F6 k t53 w)
    ) ∧
    (∀ t53 : Value, ∀ k : Nat, 0 ≤ k → k ≤ 1 → ∀ W, At w0 w W → C k W → F6 k t53 W → 
      Does Try.prog (Instr.buildSlice 70 1 #[(0, t53)]) W fun t54 w =>
      (Ext W w ∧ C k w ∧ F7 k t54 w)
    ) ∧
    (∀ t54 : Value, ∀ W, At w0 w W → C 1 W → F7 1 t54 W → 
      Does Try.prog (Builtin.append_ #[70, 70] 70 #[t48, t54]) W fun t55 w =>
      (At w0 W w ∧ C 2 w ∧ F8 2 t55 w ∧ (∀ v, F5 1 v W → F5 2 v w) ∧ (∀ v, F6 1 v W → F6 2 v w) ∧ (F7 1 t54 W → F7 2 t54 w) ∧ True)
    ) ∧
    (∀ t55 : Value, ∀ W, At w0 w W → C 2 W → F8 2 t55 W → 
      Does Try.prog (Instr.storeAt 70 t56 t55) W fun _ w =>
      (At w0 W w ∧ C 3 w ∧ True ∧ (∀ v, F5 2 v W → F5 3 v w) ∧ (∀ v, F6 2 v W → F6 3 v w) ∧ (∀ v, F7 2 v W → F7 3 v w) ∧ (F8 2 t55 W → F8 3 t55 w) ∧ True)
    ) ∧
    (∀ W, At w0 w W → C 3 W → J  W)) :
    DrawP Try.prog 96 (opsOf Try.f94 13) [5, 6, 9, 10] [ia5, iy6, it9, it10] [] J w := by
  obtain ⟨ct47, y0, h⟩ := h
  obtain ⟨ct48, y1, h⟩ := h
  obtain ⟨ct56, y9, h⟩ := h
  obtain ⟨o5, o6, o7, o8, o10, fin⟩ := h
  have hall : ∀ _ : Nat → Value,
    (∀ k : Nat, 0 ≤ k → k ≤ 2 → ∀ W, SR w0 { w with drawn := w.drawn + 1 } W → C k W → 
      Does Try.prog (Instr.fieldAt 72 ia5 2) W fun t47 w =>
      (Ext W w ∧ C k w ∧ t47 = ct47)
    ) ∧
    (∀ t47 : Value, ∀ k : Nat, 0 ≤ k → k ≤ 1 → ∀ W, SR w0 { w with drawn := w.drawn + 1 } W → C k W → t47 = ct47 → 
      Does Try.prog (Instr.loadAt 70 t47) W fun t48 w =>
      (Ext W w ∧ C k w ∧ t48 = ct48)
    ) ∧
    (∀ k : Nat, 0 ≤ k → k ≤ 2 → ∀ W, SR w0 { w with drawn := w.drawn + 1 } W → C k W → 
      (Ext W W ∧ C k W ∧ it9 = it9)
    ) ∧
    (∀ k : Nat, 0 ≤ k → k ≤ 2 → ∀ W, SR w0 { w with drawn := w.drawn + 1 } W → C k W → 
      (Ext W W ∧ C k W ∧ it10 = it10)
    ) ∧
    (∀ k : Nat, 0 ≤ k → k ≤ 0 → ∀ W, SR w0 { w with drawn := w.drawn + 1 } W → C k W → 
      (Ext W W ∧ C k W ∧ iy6 = iy6)
    ) ∧
    (∀ t51 : Value, ∀ W, SR w0 { w with drawn := w.drawn + 1 } W → C 0 W → t51 = iy6 → 
      Call Try.prog 113 #[t51] W fun t52 w =>
      (SR w0 W w ∧ C 1 w ∧ F5 1 t52 w ∧ (∀ v : Value, v = ct47 → v = ct47) ∧ (∀ v : Value, v = ct48 → v = ct48) ∧ (∀ v : Value, v = it9 → v = it9) ∧ (∀ v : Value, v = it10 → v = it10) ∧ (t51 = iy6 → t51 = iy6) ∧ (∀ v : Value, F7 0 v W → F7 1 v w) ∧ True)
    ) ∧
    (∀ t49 t50 t52 : Value, ∀ k : Nat, 1 ≤ k → k ≤ 2 → ∀ W, SR w0 { w with drawn := w.drawn + 1 } W → C k W → t49 = it9 → t50 = it10 → F5 k t52 W → 
      Does Try.prog (Instr.build 106 #[(0, t49), (1, t50), (2, t52)]) W fun t53 w =>
      (Ext W w ∧ C k w ∧ F6 k t53 w)
    ) ∧
    (∀ t53 : Value, ∀ k : Nat, 0 ≤ k → k ≤ 1 → ∀ W, SR w0 { w with drawn := w.drawn + 1 } W → C k W → F6 k t53 W → 
      Does Try.prog (Instr.buildSlice 70 1 #[(0, t53)]) W fun t54 w =>
      (Ext W w ∧ C k w ∧ F7 k t54 w)
    ) ∧
    (∀ t48 t54 : Value, ∀ W, SR w0 { w with drawn := w.drawn + 1 } W → C 1 W → t48 = ct48 → F7 1 t54 W → 
      Does Try.prog (Builtin.append_ #[70, 70] 70 #[t48, t54]) W fun t55 w =>
      (SR w0 W w ∧ C 2 w ∧ F8 2 t55 w ∧ (∀ v : Value, v = ct47 → v = ct47) ∧ (t48 = ct48 → t48 = ct48) ∧ (∀ v : Value, v = it9 → v = it9) ∧ (∀ v : Value, v = it10 → v = it10) ∧ (∀ v : Value, v = iy6 → v = iy6) ∧ (∀ v : Value, F5 1 v W → F5 2 v w) ∧ (∀ v : Value, F6 1 v W → F6 2 v w) ∧ (F7 1 t54 W → F7 2 t54 w) ∧ True)
    ) ∧
    (∀ k : Nat, 2 ≤ k → k ≤ 2 → ∀ W, SR w0 { w with drawn := w.drawn + 1 } W → C k W → 
      Does Try.prog (Instr.fieldAt 72 ia5 2) W fun t56 w =>
      (Ext W w ∧ C k w ∧ t56 = ct56)
    ) ∧
    (∀ t56 t55 : Value, ∀ W, SR w0 { w with drawn := w.drawn + 1 } W → C 2 W → t56 = ct56 → F8 2 t55 W → 
      Does Try.prog (Instr.storeAt 70 t56 t55) W fun _ w =>
      (SR w0 W w ∧ C 3 w ∧ True ∧ (∀ v : Value, v = ct47 → v = ct47) ∧ (∀ v : Value, v = ct48 → v = ct48) ∧ (∀ v : Value, v = it9 → v = it9) ∧ (∀ v : Value, v = it10 → v = it10) ∧ (∀ v : Value, v = iy6 → v = iy6) ∧ (∀ v : Value, F5 2 v W → F5 3 v w) ∧ (∀ v : Value, F6 2 v W → F6 3 v w) ∧ (∀ v : Value, F7 2 v W → F7 3 v w) ∧ (F8 2 t55 W → F8 3 t55 w) ∧ (t56 = ct56 → t56 = ct56) ∧ True)
    ) ∧ True := fun _ => ⟨
    fun  k hk1 hk2 W hS hC  => (by exact ⟨_, W, y0 W ⟨SR.at hw hS, k, hk1, hk2, hC⟩, Ext.refl _, hC, rfl⟩),
    fun t47 k hk1 hk2 W hS hC ht47 => (by subst ht47; exact ⟨_, W, y1 W ⟨SR.at hw hS, k, hk1, hk2, hC⟩, Ext.refl _, hC, rfl⟩),
    fun  k hk1 hk2 W hS hC  => (by exact ⟨Ext.refl _, hC, rfl⟩),
    fun  k hk1 hk2 W hS hC  => (by exact ⟨Ext.refl _, hC, rfl⟩),
    fun  k hk1 hk2 W hS hC  => (by exact ⟨Ext.refl _, hC, rfl⟩),
    fun t51 W hS hC ht51 => (by subst ht51; exact Call.mono (o5  W (SR.at hw hS) hC ) fun _ _ h => ⟨SR.of h.1, h.2.1, h.2.2.1, fun _ h => h, fun _ h => h, fun _ h => h, fun _ h => h, fun h => h, h.2.2.2.1, trivial⟩),
    fun t49 t50 t52 k hk1 hk2 W hS hC ht49 ht50 ht52 => (by subst ht49; subst ht50; exact o6 t52 k hk1 hk2 W (SR.at hw hS) hC ht52),
    fun t53 k hk1 hk2 W hS hC ht53 => (by exact o7 t53 k hk1 hk2 W (SR.at hw hS) hC ht53),
    fun t48 t54 W hS hC ht48 ht54 => (by subst ht48; exact Does.mono (o8 t54 W (SR.at hw hS) hC ht54) fun _ _ h => ⟨SR.of h.1, h.2.1, h.2.2.1, fun _ h => h, fun h => h, fun _ h => h, fun _ h => h, fun _ h => h, h.2.2.2.1, h.2.2.2.2.1, h.2.2.2.2.2.1, trivial⟩),
    fun  k hk1 hk2 W hS hC  => (by exact ⟨_, W, y9 W ⟨SR.at hw hS, k, hk1, hk2, hC⟩, Ext.refl _, hC, rfl⟩),
    fun t56 t55 W hS hC ht56 ht55 => (by subst ht56; exact Does.mono (o10 t55 W (SR.at hw hS) hC ht55) fun _ _ h => ⟨SR.of h.1, h.2.1, h.2.2.1, fun _ h => h, fun _ h => h, fun _ h => h, fun _ h => h, fun _ h => h, h.2.2.2.1, h.2.2.2.2.1, h.2.2.2.2.2.1, h.2.2.2.2.2.2.1, fun h => h, trivial⟩),
    trivial⟩
  have hst := lkF2_st (S := Ext) (l := [(0, fun _ v _ => v = ct47), (1, fun _ v _ => v = ct48), (2, fun _ v _ => v = it9), (3, fun _ v _ => v = it10), (4, fun _ v _ => v = iy6), (5, F5), (6, F6), (7, F7), (8, F8), (9, fun _ v _ => v = ct56)]) (fun p hp => by
    simp only [List.mem_cons, List.not_mem_nil, or_false] at hp
    rcases hp with rfl | rfl | rfl | rfl | rfl | rfl | rfl | rfl | rfl | rfl
    · exact fun _ => FSt.const _
    · exact fun _ => FSt.const _
    · exact fun _ => FSt.const _
    · exact fun _ => FSt.const _
    · exact fun _ => FSt.const _
    · exact s5
    · exact s6
    · exact s7
    · exact s8
    · exact fun _ => FSt.const _
    )
  have hf : ∀ W, SR w0 { w with drawn := w.drawn + 1 } W → C 3 W → J  W := fun  W hS hC  => (by exact fin  W (SR.at hw hS) hC )
  exact draw_phi2 (T := [5, 8, 10]) Ext (SR w0) C (lkF2 [(0, fun _ v _ => v = ct47), (1, fun _ v _ => v = ct48), (2, fun _ v _ => v = it9), (3, fun _ v _ => v = it10), (4, fun _ v _ => v = iy6), (5, F5), (6, F6), (7, F7), (8, F8), (9, fun _ v _ => v = ct56)]) (by kernel_rfl) (SR.refl w0) (fun _ _ _ => SR.trans) (fun _ _ => SR.ofExt) hst h0 (Eq.mp (by kernel_rfl) hall) (Eq.mp (by kernel_rfl) hf)

theorem h94_20 {ia5 iy6 : Value} {w : World} {J : VF 0} (w0 : World) (C : Nat → World → Prop) (F3 F4 F5 : Nat → Value → World → Prop) 
    (hw : Ext w0 w) (s3 : ∀ k, FSt Ext (F3 k)) (s4 : ∀ k, FSt Ext (F4 k)) (s5 : ∀ k, FSt Ext (F5 k)) (h0 : C 0 { w with drawn := w.drawn + 1 })
    (h :     Quiet Try.prog (Stg w0 w C 0 2) (Instr.fieldAt 72 ia5 4) w fun t76 w =>
    Quiet Try.prog (Stg w0 w C 0 1) (Instr.loadAt 23 t76) w fun t77 w =>
    Quiet Try.prog (Stg w0 w C 2 2) (Instr.fieldAt 72 ia5 4) w fun t82 w =>
    (∀ W, At w0 w W → C 0 W → 
      Call Try.prog 113 #[iy6] W fun t79 w =>
      (At w0 W w ∧ C 1 w ∧ F3 1 t79 w ∧ True)
    ) ∧
    (∀ t79 : Value, ∀ W, At w0 w W → C 1 W → F3 1 t79 W → 
      Does Try.prog (Instr.buildSlice 23 1 #[(0, t79)]) W fun t80 w =>
      (Ext W w ∧ C 1 w ∧ F4 1 t80 w)
    ) ∧
    (∀ t80 : Value, ∀ W, At w0 w W → C 1 W → F4 1 t80 W → 
      Does Try.prog (Builtin.append_ #[23, 23] 23 #[t77, t80]) W fun t81 w =>
      (At w0 W w ∧ C 2 w ∧ F5 2 t81 w ∧ (∀ v, F3 1 v W → F3 2 v w) ∧ (F4 1 t80 W → F4 2 t80 w) ∧ True)
    ) ∧
    (∀ t81 : Value, ∀ W, At w0 w W → C 2 W → F5 2 t81 W → 
      Does Try.prog (Instr.storeAt 23 t82 t81) W fun _ w =>
      (At w0 W w ∧ C 3 w ∧ True ∧ (∀ v, F3 2 v W → F3 3 v w) ∧ (∀ v, F4 2 v W → F4 3 v w) ∧ (F5 2 t81 W → F5 3 t81 w) ∧ True)
    ) ∧
    (∀ W, At w0 w W → C 3 W → J  W)) :
    DrawP Try.prog 96 (opsOf Try.f94 20) [5, 6] [ia5, iy6] [] J w := by
  obtain ⟨ct76, y0, h⟩ := h
  obtain ⟨ct77, y1, h⟩ := h
  obtain ⟨ct82, y6, h⟩ := h
  obtain ⟨o3, o4, o5, o7, fin⟩ := h
  have hall : ∀ _ : Nat → Value,
    (∀ k : Nat, 0 ≤ k → k ≤ 2 → ∀ W, SR w0 { w with drawn := w.drawn + 1 } W → C k W → 
      Does Try.prog (Instr.fieldAt 72 ia5 4) W fun t76 w =>
      (Ext W w ∧ C k w ∧ t76 = ct76)
    ) ∧
    (∀ t76 : Value, ∀ k : Nat, 0 ≤ k → k ≤ 1 → ∀ W, SR w0 { w with drawn := w.drawn + 1 } W → C k W → t76 = ct76 → 
      Does Try.prog (Instr.loadAt 23 t76) W fun t77 w =>
      (Ext W w ∧ C k w ∧ t77 = ct77)
    ) ∧
    (∀ k : Nat, 0 ≤ k → k ≤ 0 → ∀ W, SR w0 { w with drawn := w.drawn + 1 } W → C k W → 
      (Ext W W ∧ C k W ∧ iy6 = iy6)
    ) ∧
    (∀ t78 : Value, ∀ W, SR w0 { w with drawn := w.drawn + 1 } W → C 0 W → t78 = iy6 → 
      Call Try.prog 113 #[t78] W fun t79 w =>
      (SR w0 W w ∧ C 1 w ∧ F3 1 t79 w ∧ (∀ v : Value, v = ct76 → v = ct76) ∧ (∀ v : Value, v = ct77 → v = ct77) ∧ (t78 = iy6 → t78 = iy6) ∧ True)
    ) ∧
    (∀ t79 : Value, ∀ k : Nat, 1 ≤ k → k ≤ 1 → ∀ W, SR w0 { w with drawn := w.drawn + 1 } W → C k W → F3 k t79 W → 
      Does Try.prog (Instr.buildSlice 23 1 #[(0, t79)]) W fun t80 w =>
      (Ext W w ∧ C k w ∧ F4 k t80 w)
    ) ∧
    (∀ t77 t80 : Value, ∀ W, SR w0 { w with drawn := w.drawn + 1 } W → C 1 W → t77 = ct77 → F4 1 t80 W → 
      Does Try.prog (Builtin.append_ #[23, 23] 23 #[t77, t80]) W fun t81 w =>
      (SR w0 W w ∧ C 2 w ∧ F5 2 t81 w ∧ (∀ v : Value, v = ct76 → v = ct76) ∧ (t77 = ct77 → t77 = ct77) ∧ (∀ v : Value, v = iy6 → v = iy6) ∧ (∀ v : Value, F3 1 v W → F3 2 v w) ∧ (F4 1 t80 W → F4 2 t80 w) ∧ True)
    ) ∧
    (∀ k : Nat, 2 ≤ k → k ≤ 2 → ∀ W, SR w0 { w with drawn := w.drawn + 1 } W → C k W → 
      Does Try.prog (Instr.fieldAt 72 ia5 4) W fun t82 w =>
      (Ext W w ∧ C k w ∧ t82 = ct82)
    ) ∧
    (∀ t82 t81 : Value, ∀ W, SR w0 { w with drawn := w.drawn + 1 } W → C 2 W → t82 = ct82 → F5 2 t81 W → 
      Does Try.prog (Instr.storeAt 23 t82 t81) W fun _ w =>
      (SR w0 W w ∧ C 3 w ∧ True ∧ (∀ v : Value, v = ct76 → v = ct76) ∧ (∀ v : Value, v = ct77 → v = ct77) ∧ (∀ v : Value, v = iy6 → v = iy6) ∧ (∀ v : Value, F3 2 v W → F3 3 v w) ∧ (∀ v : Value, F4 2 v W → F4 3 v w) ∧ (F5 2 t81 W → F5 3 t81 w) ∧ (t82 = ct82 → t82 = ct82) ∧ True)
    ) ∧ True := fun _ => ⟨
    fun  k hk1 hk2 W hS hC  => (by exact ⟨_, W, y0 W ⟨SR.at hw hS, k, hk1, hk2, hC⟩, Ext.refl _, hC, rfl⟩),
    fun t76 k hk1 hk2 W hS hC ht76 => (by subst ht76; exact ⟨_, W, y1 W ⟨SR.at hw hS, k, hk1, hk2, hC⟩, Ext.refl _, hC, rfl⟩),
    fun  k hk1 hk2 W hS hC  => (by exact ⟨Ext.refl _, hC, rfl⟩),
    fun t78 W hS hC ht78 => (by subst ht78; exact Call.mono (o3  W (SR.at hw hS) hC ) fun _ _ h => ⟨SR.of h.1, h.2.1, h.2.2.1, fun _ h => h, fun _ h => h, fun h => h, trivial⟩),
    fun t79 k hk1 hk2 W hS hC ht79 => (by obtain rfl : k = 1 := (by omega); exact o4 t79 W (SR.at hw hS) hC ht79),
    fun t77 t80 W hS hC ht77 ht80 => (by subst ht77; exact Does.mono (o5 t80 W (SR.at hw hS) hC ht80) fun _ _ h => ⟨SR.of h.1, h.2.1, h.2.2.1, fun _ h => h, fun h => h, fun _ h => h, h.2.2.2.1, h.2.2.2.2.1, trivial⟩),
    fun  k hk1 hk2 W hS hC  => (by exact ⟨_, W, y6 W ⟨SR.at hw hS, k, hk1, hk2, hC⟩, Ext.refl _, hC, rfl⟩),
    fun t82 t81 W hS hC ht82 ht81 => (by subst ht82; exact Does.mono (o7 t81 W (SR.at hw hS) hC ht81) fun _ _ h => ⟨SR.of h.1, h.2.1, h.2.2.1, fun _ h => h, fun _ h => h, fun _ h => h, h.2.2.2.1, h.2.2.2.2.1, h.2.2.2.2.2.1, fun h => h, trivial⟩),
    trivial⟩
  have hst := lkF2_st (S := Ext) (l := [(0, fun _ v _ => v = ct76), (1, fun _ v _ => v = ct77), (2, fun _ v _ => v = iy6), (3, F3), (4, F4), (5, F5), (6, fun _ v _ => v = ct82)]) (fun p hp => by
    simp only [List.mem_cons, List.not_mem_nil, or_false] at hp
    rcases hp with rfl | rfl | rfl | rfl | rfl | rfl | rfl
    · exact fun _ => FSt.const _
    · exact fun _ => FSt.const _
    · exact fun _ => FSt.const _
    · exact s3
    · exact s4
    · exact s5
    · exact fun _ => FSt.const _
    )
  have hf : ∀ W, SR w0 { w with drawn := w.drawn + 1 } W → C 3 W → J  W := fun  W hS hC  => (by exact fin  W (SR.at hw hS) hC )
  exact draw_phi2 (T := [3, 5, 7]) Ext (SR w0) C (lkF2 [(0, fun _ v _ => v = ct76), (1, fun _ v _ => v = ct77), (2, fun _ v _ => v = iy6), (3, F3), (4, F4), (5, F5), (6, fun _ v _ => v = ct82)]) (by kernel_rfl) (SR.refl w0) (fun _ _ _ => SR.trans) (fun _ _ => SR.ofExt) hst h0 (Eq.mp (by kernel_rfl) hall) (Eq.mp (by kernel_rfl) hf)

theorem h15_15 {ir4 ia5 it8 it9 : Value} {w : World} {J : VF 0} (w0 : World) (C : Nat → World → Prop) (F6 F7 F8 F9 F10 : Nat → Value → World → Prop) 
    (hw : Ext w0 w) (s6 : ∀ k, FSt Ext (F6 k)) (s7 : ∀ k, FSt Ext (F7 k)) (s8 : ∀ k, FSt Ext (F8 k)) (s9 : ∀ k, FSt Ext (F9 k)) (s10 : ∀ k, FSt Ext (F10 k)) (h0 : C 0 { w with drawn := w.drawn + 1 })
    (h :     Quiet Try.prog (Stg w0 w C 0 3) (Instr.fieldAt 38 ia5 2) w fun t59 w =>
    Quiet Try.prog (Stg w0 w C 0 2) (Instr.loadAt 36 t59) w fun t60 w =>
    Quiet Try.prog (Stg w0 w C 0 3) (convert 34 9 it9) w fun t63 w =>
    Quiet Try.prog (Stg w0 w C 3 3) (Instr.fieldAt 38 ia5 2) w fun t70 w =>
    (∀ W, At w0 w W → C 0 W → 
      Call Try.prog 52 #[ir4, (Go.Value.int Go.IntKind.i64 32)] W fun t65 w =>
      (At w0 W w ∧ C 1 w ∧ F6 1 t65 w ∧ (∀ v, F9 0 v W → F9 1 v w) ∧ True)
    ) ∧
    (∀ t65 : Value, ∀ W, At w0 w W → C 1 W → F6 1 t65 W → 
      Call Try.prog 55 #[t65] W fun t66 w =>
      (At w0 W w ∧ C 2 w ∧ F7 2 t66 w ∧ (F6 1 t65 W → F6 2 t65 w) ∧ (∀ v, F9 1 v W → F9 2 v w) ∧ True)
    ) ∧
    (∀ t66 : Value, ∀ k : Nat, 2 ≤ k → k ≤ 3 → ∀ W, At w0 w W → C k W → F7 k t66 W → 
      Does Try.prog (Instr.build 87 #[(0, it8), (1, t63), (2, t66)]) W fun t67 w =>
      (Ext W w ∧ C k w ∧ F8 k t67 w)
    ) ∧
    (∀ t67 : Value, ∀ k : Nat, 0 ≤ k → k ≤ 2 → ∀ W, At w0 w W → C k W → F8 k t67 W → 
      Does Try.prog (Instr.buildSlice 36 1 #[(0, t67)]) W fun t68 w =>
      (Ext W w ∧ C k w ∧ F9 k t68 w)
    ) ∧
    (∀ t68 : Value, ∀ W, At w0 w W → C 2 W → F9 2 t68 W → 
      Does Try.prog (Builtin.append_ #[36, 36] 36 #[t60, t68]) W fun t69 w =>
      (At w0 W w ∧ C 3 w ∧ F10 3 t69 w ∧ (∀ v, F6 2 v W → F6 3 v w) ∧ (∀ v, F7 2 v W → F7 3 v w) ∧ (∀ v, F8 2 v W → F8 3 v w) ∧ (F9 2 t68 W → F9 3 t68 w) ∧ True)
    ) ∧
    (∀ t69 : Value, ∀ W, At w0 w W → C 3 W → F10 3 t69 W → 
      Does Try.prog (Instr.storeAt 36 t70 t69) W fun _ w =>
      (At w0 W w ∧ C 4 w ∧ True ∧ (∀ v, F6 3 v W → F6 4 v w) ∧ (∀ v, F7 3 v W → F7 4 v w) ∧ (∀ v, F8 3 v W → F8 4 v w) ∧ (∀ v, F9 3 v W → F9 4 v w) ∧ (F10 3 t69 W → F10 4 t69 w) ∧ True)
    ) ∧
    (∀ W, At w0 w W → C 4 W → J  W)) :
    DrawP Try.prog 132 (opsOf Try.f15 15) [4, 5, 8, 9] [ir4, ia5, it8, it9] [] J w := by
  obtain ⟨ct59, y0, h⟩ := h
  obtain ⟨ct60, y1, h⟩ := h
  obtain ⟨ct63, y4, h⟩ := h
  obtain ⟨ct70, y11, h⟩ := h
  obtain ⟨o6, o7, o8, o9, o10, o12, fin⟩ := h
  have hall : ∀ _ : Nat → Value,
    (∀ k : Nat, 0 ≤ k → k ≤ 3 → ∀ W, SR w0 { w with drawn := w.drawn + 1 } W → C k W → 
      Does Try.prog (Instr.fieldAt 38 ia5 2) W fun t59 w =>
      (Ext W w ∧ C k w ∧ t59 = ct59)
    ) ∧
    (∀ t59 : Value, ∀ k : Nat, 0 ≤ k → k ≤ 2 → ∀ W, SR w0 { w with drawn := w.drawn + 1 } W → C k W → t59 = ct59 → 
      Does Try.prog (Instr.loadAt 36 t59) W fun t60 w =>
      (Ext W w ∧ C k w ∧ t60 = ct60)
    ) ∧
    (∀ k : Nat, 0 ≤ k → k ≤ 3 → ∀ W, SR w0 { w with drawn := w.drawn + 1 } W → C k W → 
      (Ext W W ∧ C k W ∧ it8 = it8)
    ) ∧
    (∀ k : Nat, 0 ≤ k → k ≤ 3 → ∀ W, SR w0 { w with drawn := w.drawn + 1 } W → C k W → 
      (Ext W W ∧ C k W ∧ it9 = it9)
    ) ∧
    (∀ t62 : Value, ∀ k : Nat, 0 ≤ k → k ≤ 3 → ∀ W, SR w0 { w with drawn := w.drawn + 1 } W → C k W → t62 = it9 → 
      Does Try.prog (convert 34 9 t62) W fun t63 w =>
      (Ext W w ∧ C k w ∧ t63 = ct63)
    ) ∧
    (∀ k : Nat, 0 ≤ k → k ≤ 0 → ∀ W, SR w0 { w with drawn := w.drawn + 1 } W → C k W → 
      (Ext W W ∧ C k W ∧ ir4 = ir4)
    ) ∧
    (∀ t64 : Value, ∀ W, SR w0 { w with drawn := w.drawn + 1 } W → C 0 W → t64 = ir4 → 
      Call Try.prog 52 #[t64, (Go.Value.int Go.IntKind.i64 32)] W fun t65 w =>
      (SR w0 W w ∧ C 1 w ∧ F6 1 t65 w ∧ (∀ v : Value, v = ct59 → v = ct59) ∧ (∀ v : Value, v = ct60 → v = ct60) ∧ (∀ v : Value, v = it8 → v = it8) ∧ (∀ v : Value, v = it9 → v = it9) ∧ (∀ v : Value, v = ct63 → v = ct63) ∧ (t64 = ir4 → t64 = ir4) ∧ (∀ v : Value, F9 0 v W → F9 1 v w) ∧ True)
    ) ∧
    (∀ t65 : Value, ∀ W, SR w0 { w with drawn := w.drawn + 1 } W → C 1 W → F6 1 t65 W → 
      Call Try.prog 55 #[t65] W fun t66 w =>
      (SR w0 W w ∧ C 2 w ∧ F7 2 t66 w ∧ (∀ v : Value, v = ct59 → v = ct59) ∧ (∀ v : Value, v = ct60 → v = ct60) ∧ (∀ v : Value, v = it8 → v = it8) ∧ (∀ v : Value, v = it9 → v = it9) ∧ (∀ v : Value, v = ct63 → v = ct63) ∧ (∀ v : Value, v = ir4 → v = ir4) ∧ (F6 1 t65 W → F6 2 t65 w) ∧ (∀ v : Value, F9 1 v W → F9 2 v w) ∧ True)
    ) ∧
    (∀ t61 t63 t66 : Value, ∀ k : Nat, 2 ≤ k → k ≤ 3 → ∀ W, SR w0 { w with drawn := w.drawn + 1 } W → C k W → t61 = it8 → t63 = ct63 → F7 k t66 W → 
      Does Try.prog (Instr.build 87 #[(0, t61), (1, t63), (2, t66)]) W fun t67 w =>
      (Ext W w ∧ C k w ∧ F8 k t67 w)
    ) ∧
    (∀ t67 : Value, ∀ k : Nat, 0 ≤ k → k ≤ 2 → ∀ W, SR w0 { w with drawn := w.drawn + 1 } W → C k W → F8 k t67 W → 
      Does Try.prog (Instr.buildSlice 36 1 #[(0, t67)]) W fun t68 w =>
      (Ext W w ∧ C k w ∧ F9 k t68 w)
    ) ∧
    (∀ t60 t68 : Value, ∀ W, SR w0 { w with drawn := w.drawn + 1 } W → C 2 W → t60 = ct60 → F9 2 t68 W → 
      Does Try.prog (Builtin.append_ #[36, 36] 36 #[t60, t68]) W fun t69 w =>
      (SR w0 W w ∧ C 3 w ∧ F10 3 t69 w ∧ (∀ v : Value, v = ct59 → v = ct59) ∧ (t60 = ct60 → t60 = ct60) ∧ (∀ v : Value, v = it8 → v = it8) ∧ (∀ v : Value, v = it9 → v = it9) ∧ (∀ v : Value, v = ct63 → v = ct63) ∧ (∀ v : Value, v = ir4 → v = ir4) ∧ (∀ v : Value, F6 2 v W → F6 3 v w) ∧ (∀ v : Value, F7 2 v W → F7 3 v w) ∧ (∀ v : Value, F8 2 v W → F8 3 v w) ∧ (F9 2 t68 W → F9 3 t68 w) ∧ True)
    ) ∧
    (∀ k : Nat, 3 ≤ k → k ≤ 3 → ∀ W, SR w0 { w with drawn := w.drawn + 1 } W → C k W → 
      Does Try.prog (Instr.fieldAt 38 ia5 2) W fun t70 w =>
      (Ext W w ∧ C k w ∧ t70 = ct70)
    ) ∧
    (∀ t70 t69 : Value, ∀ W, SR w0 { w with drawn := w.drawn + 1 } W → C 3 W → t70 = ct70 → F10 3 t69 W → 
      Does Try.prog (Instr.storeAt 36 t70 t69) W fun _ w =>
      (SR w0 W w ∧ C 4 w ∧ True ∧ (∀ v : Value, v = ct59 → v = ct59) ∧ (∀ v : Value, v = ct60 → v = ct60) ∧ (∀ v : Value, v = it8 → v = it8) ∧ (∀ v : Value, v = it9 → v = it9) ∧ (∀ v : Value, v = ct63 → v = ct63) ∧ (∀ v : Value, v = ir4 → v = ir4) ∧ (∀ v : Value, F6 3 v W → F6 4 v w) ∧ (∀ v : Value, F7 3 v W → F7 4 v w) ∧ (∀ v : Value, F8 3 v W → F8 4 v w) ∧ (∀ v : Value, F9 3 v W → F9 4 v w) ∧ (F10 3 t69 W → F10 4 t69 w) ∧ (t70 = ct70 → t70 = ct70) ∧ True)
    ) ∧ True := fun _ => ⟨
    fun  k hk1 hk2 W hS hC  => (by exact ⟨_, W, y0 W ⟨SR.at hw hS, k, hk1, hk2, hC⟩, Ext.refl _, hC, rfl⟩),
    fun t59 k hk1 hk2 W hS hC ht59 => (by subst ht59; exact ⟨_, W, y1 W ⟨SR.at hw hS, k, hk1, hk2, hC⟩, Ext.refl _, hC, rfl⟩),
    fun  k hk1 hk2 W hS hC  => (by exact ⟨Ext.refl _, hC, rfl⟩),
    fun  k hk1 hk2 W hS hC  => (by exact ⟨Ext.refl _, hC, rfl⟩),
    fun t62 k hk1 hk2 W hS hC ht62 => (by subst ht62; exact ⟨_, W, y4 W ⟨SR.at hw hS, k, hk1, hk2, hC⟩, Ext.refl _, hC, rfl⟩),
    fun  k hk1 hk2 W hS hC  => (by exact ⟨Ext.refl _, hC, rfl⟩),
    fun t64 W hS hC ht64 => (by subst ht64; exact Call.mono (o6  W (SR.at hw hS) hC ) fun _ _ h => ⟨SR.of h.1, h.2.1, h.2.2.1, fun _ h => h, fun _ h => h, fun _ h => h, fun _ h => h, fun _ h => h, fun h => h, h.2.2.2.1, trivial⟩),
    fun t65 W hS hC ht65 => (by exact Call.mono (o7 t65 W (SR.at hw hS) hC ht65) fun _ _ h => ⟨SR.of h.1, h.2.1, h.2.2.1, fun _ h => h, fun _ h => h, fun _ h => h, fun _ h => h, fun _ h => h, fun _ h => h, h.2.2.2.1, h.2.2.2.2.1, trivial⟩),
    fun t61 t63 t66 k hk1 hk2 W hS hC ht61 ht63 ht66 => (by subst ht61; subst ht63; exact o8 t66 k hk1 hk2 W (SR.at hw hS) hC ht66),
    fun t67 k hk1 hk2 W hS hC ht67 => (by exact o9 t67 k hk1 hk2 W (SR.at hw hS) hC ht67),
    fun t60 t68 W hS hC ht60 ht68 => (by subst ht60; exact Does.mono (o10 t68 W (SR.at hw hS) hC ht68) fun _ _ h => ⟨SR.of h.1, h.2.1, h.2.2.1, fun _ h => h, fun h => h, fun _ h => h, fun _ h => h, fun _ h => h, fun _ h => h, h.2.2.2.1, h.2.2.2.2.1, h.2.2.2.2.2.1, h.2.2.2.2.2.2.1, trivial⟩),
    fun  k hk1 hk2 W hS hC  => (by exact ⟨_, W, y11 W ⟨SR.at hw hS, k, hk1, hk2, hC⟩, Ext.refl _, hC, rfl⟩),
    fun t70 t69 W hS hC ht70 ht69 => (by subst ht70; exact Does.mono (o12 t69 W (SR.at hw hS) hC ht69) fun _ _ h => ⟨SR.of h.1, h.2.1, h.2.2.1, fun _ h => h, fun _ h => h, fun _ h => h, fun _ h => h, fun _ h => h, fun _ h => h, h.2.2.2.1, h.2.2.2.2.1, h.2.2.2.2.2.1, h.2.2.2.2.2.2.1, h.2.2.2.2.2.2.2.1, fun h => h, trivial⟩),
    trivial⟩
  have hst := lkF2_st (S := Ext) (l := [(0, fun _ v _ => v = ct59), (1, fun _ v _ => v = ct60), (2, fun _ v _ => v = it8), (3, fun _ v _ => v = it9), (4, fun _ v _ => v = ct63), (5, fun _ v _ => v = ir4), (6, F6), (7, F7), (8, F8), (9, F9), (10, F10), (11, fun _ v _ => v = ct70)]) (fun p hp => by
    simp only [List.mem_cons, List.not_mem_nil, or_false] at hp
    rcases hp with rfl | rfl | rfl | rfl | rfl | rfl | rfl | rfl | rfl | rfl | rfl | rfl
    · exact fun _ => FSt.const _
    · exact fun _ => FSt.const _
    · exact fun _ => FSt.const _
    · exact fun _ => FSt.const _
    · exact fun _ => FSt.const _
    · exact fun _ => FSt.const _
    · exact s6
    · exact s7
    · exact s8
    · exact s9
    · exact s10
    · exact fun _ => FSt.const _
    )
  have hf : ∀ W, SR w0 { w with drawn := w.drawn + 1 } W → C 4 W → J  W := fun  W hS hC  => (by exact fin  W (SR.at hw hS) hC )
  exact draw_phi2 (T := [6, 7, 10, 12]) Ext (SR w0) C (lkF2 [(0, fun _ v _ => v = ct59), (1, fun _ v _ => v = ct60), (2, fun _ v _ => v = it8), (3, fun _ v _ => v = it9), (4, fun _ v _ => v = ct63), (5, fun _ v _ => v = ir4), (6, F6), (7, F7), (8, F8), (9, F9), (10, F10), (11, fun _ v _ => v = ct70)]) (by kernel_rfl) (SR.refl w0) (fun _ _ _ => SR.trans) (fun _ _ => SR.ofExt) hst h0 (Eq.mp (by kernel_rfl) hall) (Eq.mp (by kernel_rfl) hf)

theorem h15_22 {ir4 ia5 : Value} {w : World} {J : VF 0} (w0 : World) (C : Nat → World → Prop) (F3 F4 F5 F6 : Nat → Value → World → Prop) 
    (hw : Ext w0 w) (s3 : ∀ k, FSt Ext (F3 k)) (s4 : ∀ k, FSt Ext (F4 k)) (s5 : ∀ k, FSt Ext (F5 k)) (s6 : ∀ k, FSt Ext (F6 k)) (h0 : C 0 { w with drawn := w.drawn + 1 })
    (h :     Quiet Try.prog (Stg w0 w C 0 3) (Instr.fieldAt 38 ia5 4) w fun t91 w =>
    Quiet Try.prog (Stg w0 w C 0 2) (Instr.loadAt 23 t91) w fun t92 w =>
    Quiet Try.prog (Stg w0 w C 3 3) (Instr.fieldAt 38 ia5 4) w fun t98 w =>
    (∀ W, At w0 w W → C 0 W → 
      Call Try.prog 52 #[ir4, (Go.Value.int Go.IntKind.i64 32)] W fun t94 w =>
      (At w0 W w ∧ C 1 w ∧ F3 1 t94 w ∧ True)
    ) ∧
    (∀ t94 : Value, ∀ W, At w0 w W → C 1 W → F3 1 t94 W → 
      Call Try.prog 55 #[t94] W fun t95 w =>
      (At w0 W w ∧ C 2 w ∧ F4 2 t95 w ∧ (F3 1 t94 W → F3 2 t94 w) ∧ True)
    ) ∧
    (∀ t95 : Value, ∀ W, At w0 w W → C 2 W → F4 2 t95 W → 
      Does Try.prog (Instr.buildSlice 23 1 #[(0, t95)]) W fun t96 w =>
      (Ext W w ∧ C 2 w ∧ F5 2 t96 w)
    ) ∧
    (∀ t96 : Value, ∀ W, At w0 w W → C 2 W → F5 2 t96 W → 
      Does Try.prog (Builtin.append_ #[23, 23] 23 #[t92, t96]) W fun t97 w =>
      (At w0 W w ∧ C 3 w ∧ F6 3 t97 w ∧ (∀ v, F3 2 v W → F3 3 v w) ∧ (∀ v, F4 2 v W → F4 3 v w) ∧ (F5 2 t96 W → F5 3 t96 w) ∧ True)
    ) ∧
    (∀ t97 : Value, ∀ W, At w0 w W → C 3 W → F6 3 t97 W → 
      Does Try.prog (Instr.storeAt 23 t98 t97) W fun _ w =>
      (At w0 W w ∧ C 4 w ∧ True ∧ (∀ v, F3 3 v W → F3 4 v w) ∧ (∀ v, F4 3 v W → F4 4 v w) ∧ (∀ v, F5 3 v W → F5 4 v w) ∧ (F6 3 t97 W → F6 4 t97 w) ∧ True)
    ) ∧
    (∀ W, At w0 w W → C 4 W → J  W)) :
    DrawP Try.prog 132 (opsOf Try.f15 22) [4, 5] [ir4, ia5] [] J w := by
  obtain ⟨ct91, y0, h⟩ := h
  obtain ⟨ct92, y1, h⟩ := h
  obtain ⟨ct98, y7, h⟩ := h
  obtain ⟨o3, o4, o5, o6, o8, fin⟩ := h
  have hall : ∀ _ : Nat → Value,
    (∀ k : Nat, 0 ≤ k → k ≤ 3 → ∀ W, SR w0 { w with drawn := w.drawn + 1 } W → C k W → 
      Does Try.prog (Instr.fieldAt 38 ia5 4) W fun t91 w =>
      (Ext W w ∧ C k w ∧ t91 = ct91)
    ) ∧
    (∀ t91 : Value, ∀ k : Nat, 0 ≤ k → k ≤ 2 → ∀ W, SR w0 { w with drawn := w.drawn + 1 } W → C k W → t91 = ct91 → 
      Does Try.prog (Instr.loadAt 23 t91) W fun t92 w =>
      (Ext W w ∧ C k w ∧ t92 = ct92)
    ) ∧
    (∀ k : Nat, 0 ≤ k → k ≤ 0 → ∀ W, SR w0 { w with drawn := w.drawn + 1 } W → C k W → 
      (Ext W W ∧ C k W ∧ ir4 = ir4)
    ) ∧
    (∀ t93 : Value, ∀ W, SR w0 { w with drawn := w.drawn + 1 } W → C 0 W → t93 = ir4 → 
      Call Try.prog 52 #[t93, (Go.Value.int Go.IntKind.i64 32)] W fun t94 w =>
      (SR w0 W w ∧ C 1 w ∧ F3 1 t94 w ∧ (∀ v : Value, v = ct91 → v = ct91) ∧ (∀ v : Value, v = ct92 → v = ct92) ∧ (t93 = ir4 → t93 = ir4) ∧ True)
    ) ∧
    (∀ t94 : Value, ∀ W, SR w0 { w with drawn := w.drawn + 1 } W → C 1 W → F3 1 t94 W → 
      Call Try.prog 55 #[t94] W fun t95 w =>
      (SR w0 W w ∧ C 2 w ∧ F4 2 t95 w ∧ (∀ v : Value, v = ct91 → v = ct91) ∧ (∀ v : Value, v = ct92 → v = ct92) ∧ (∀ v : Value, v = ir4 → v = ir4) ∧ (F3 1 t94 W → F3 2 t94 w) ∧ True)
    ) ∧
    (∀ t95 : Value, ∀ k : Nat, 2 ≤ k → k ≤ 2 → ∀ W, SR w0 { w with drawn := w.drawn + 1 } W → C k W → F4 k t95 W → 
      Does Try.prog (Instr.buildSlice 23 1 #[(0, t95)]) W fun t96 w =>
      (Ext W w ∧ C k w ∧ F5 k t96 w)
    ) ∧
    (∀ t92 t96 : Value, ∀ W, SR w0 { w with drawn := w.drawn + 1 } W → C 2 W → t92 = ct92 → F5 2 t96 W → 
      Does Try.prog (Builtin.append_ #[23, 23] 23 #[t92, t96]) W fun t97 w =>
      (SR w0 W w ∧ C 3 w ∧ F6 3 t97 w ∧ (∀ v : Value, v = ct91 → v = ct91) ∧ (t92 = ct92 → t92 = ct92) ∧ (∀ v : Value, v = ir4 → v = ir4) ∧ (∀ v : Value, F3 2 v W → F3 3 v w) ∧ (∀ v : Value, F4 2 v W → F4 3 v w) ∧ (F5 2 t96 W → F5 3 t96 w) ∧ True)
    ) ∧
    (∀ k : Nat, 3 ≤ k → k ≤ 3 → ∀ W, SR w0 { w with drawn := w.drawn + 1 } W → C k W → 
      Does Try.prog (Instr.fieldAt 38 ia5 4) W fun t98 w =>
      (Ext W w ∧ C k w ∧ t98 = ct98)
    ) ∧
    (∀ t98 t97 : Value, ∀ W, SR w0 { w with drawn := w.drawn + 1 } W → C 3 W → t98 = ct98 → F6 3 t97 W → 
      Does Try.prog (Instr.storeAt 23 t98 t97) W fun _ w =>
      (SR w0 W w ∧ C 4 w ∧ True ∧ (∀ v : Value, v = ct91 → v = ct91) ∧ (∀ v : Value, v = ct92 → v = ct92) ∧ (∀ v : Value, v = ir4 → v = ir4) ∧ (∀ v : Value, F3 3 v W → F3 4 v w) ∧ (∀ v : Value, F4 3 v W → F4 4 v w) ∧ (∀ v : Value, F5 3 v W → F5 4 v w) ∧ (F6 3 t97 W → F6 4 t97 w) ∧ (t98 = ct98 → t98 = ct98) ∧ True)
    ) ∧ True := fun _ => ⟨
    fun  k hk1 hk2 W hS hC  => (by exact ⟨_, W, y0 W ⟨SR.at hw hS, k, hk1, hk2, hC⟩, Ext.refl _, hC, rfl⟩),
    fun t91 k hk1 hk2 W hS hC ht91 => (by subst ht91; exact ⟨_, W, y1 W ⟨SR.at hw hS, k, hk1, hk2, hC⟩, Ext.refl _, hC, rfl⟩),
    fun  k hk1 hk2 W hS hC  => (by exact ⟨Ext.refl _, hC, rfl⟩),
    fun t93 W hS hC ht93 => (by subst ht93; exact Call.mono (o3  W (SR.at hw hS) hC ) fun _ _ h => ⟨SR.of h.1, h.2.1, h.2.2.1, fun _ h => h, fun _ h => h, fun h => h, trivial⟩),
    fun t94 W hS hC ht94 => (by exact Call.mono (o4 t94 W (SR.at hw hS) hC ht94) fun _ _ h => ⟨SR.of h.1, h.2.1, h.2.2.1, fun _ h => h, fun _ h => h, fun _ h => h, h.2.2.2.1, trivial⟩),
    fun t95 k hk1 hk2 W hS hC ht95 => (by obtain rfl : k = 2 := (by omega); exact o5 t95 W (SR.at hw hS) hC ht95),
    fun t92 t96 W hS hC ht92 ht96 => (by subst ht92; exact Does.mono (o6 t96 W (SR.at hw hS) hC ht96) fun _ _ h => ⟨SR.of h.1, h.2.1, h.2.2.1, fun _ h => h, fun h => h, fun _ h => h, h.2.2.2.1, h.2.2.2.2.1, h.2.2.2.2.2.1, trivial⟩),
    fun  k hk1 hk2 W hS hC  => (by exact ⟨_, W, y7 W ⟨SR.at hw hS, k, hk1, hk2, hC⟩, Ext.refl _, hC, rfl⟩),
    fun t98 t97 W hS hC ht98 ht97 => (by subst ht98; exact Does.mono (o8 t97 W (SR.at hw hS) hC ht97) fun _ _ h => ⟨SR.of h.1, h.2.1, h.2.2.1, fun _ h => h, fun _ h => h, fun _ h => h, h.2.2.2.1, h.2.2.2.2.1, h.2.2.2.2.2.1, h.2.2.2.2.2.2.1, fun h => h, trivial⟩),
    trivial⟩
  have hst := lkF2_st (S := Ext) (l := [(0, fun _ v _ => v = ct91), (1, fun _ v _ => v = ct92), (2, fun _ v _ => v = ir4), (3, F3), (4, F4), (5, F5), (6, F6), (7, fun _ v _ => v = ct98)]) (fun p hp => by
    simp only [List.mem_cons, List.not_mem_nil, or_false] at hp
    rcases hp with rfl | rfl | rfl | rfl | rfl | rfl | rfl | rfl
    · exact fun _ => FSt.const _
    · exact fun _ => FSt.const _
    · exact fun _ => FSt.const _
    · exact s3
    · exact s4
    · exact s5
    · exact s6
    · exact fun _ => FSt.const _
    )
  have hf : ∀ W, SR w0 { w with drawn := w.drawn + 1 } W → C 4 W → J  W := fun  W hS hC  => (by exact fin  W (SR.at hw hS) hC )
  exact draw_phi2 (T := [3, 4, 6, 8]) Ext (SR w0) C (lkF2 [(0, fun _ v _ => v = ct91), (1, fun _ v _ => v = ct92), (2, fun _ v _ => v = ir4), (3, F3), (4, F4), (5, F5), (6, F6), (7, fun _ v _ => v = ct98)]) (by kernel_rfl) (SR.refl w0) (fun _ _ _ => SR.trans) (fun _ _ => SR.ofExt) hst h0 (Eq.mp (by kernel_rfl) hall) (Eq.mp (by kernel_rfl) hf)

theorem h73_3 {ib0 : Value} {w : World} {J : VF 1} (w0 : World) (C : Nat → World → Prop) (F6 F7 : Nat → Value → World → Prop) 
    (hw : Ext w0 w) (s6 : ∀ k, FSt Ext (F6 k)) (s7 : ∀ k, FSt Ext (F7 k)) (h0 : C 0 { w with drawn := w.drawn + 1 })
    (h :     Quiet Try.prog (Stg w0 w C 0 0) (Instr.indexAt 34 ib0 (Go.Value.int Go.IntKind.i64 0)) w fun t12 w =>
    Quiet Try.prog (Stg w0 w C 0 0) (Instr.loadAt 5 t12) w fun t13 w =>
    Quiet Try.prog (Stg w0 w C 0 0) (convert 5 3 t13) w fun t14 w =>
    Quiet Try.prog (Stg w0 w C 0 0) (Instr.sliceAt 34 ib0 (some (Go.Value.int Go.IntKind.i64 1)) none none) w fun t16 w =>
    (∀ W, At w0 w W → C 0 W → 
      Call Try.prog 94 #[t14, t16] W fun t17 w =>
      (Ext W w ∧ C 0 w ∧ F6 0 t17 w)
    ) ∧
    (∀ W, At w0 w W → C 0 W → 
      Does Try.prog (Instr.alloc 72 true (.tuple #[])) W fun o4 w =>
      (Ext W w ∧ C 0 w ∧ F7 0 o4 w)
    ) ∧
    (∀ o4 t17 : Value, ∀ W, At w0 w W → C 0 W → F7 0 o4 W → F6 0 t17 W → 
      Does Try.prog (Instr.storeAt 72 o4 t17) W fun _ w =>
      (At w0 W w ∧ C 1 w ∧ True ∧ (F6 0 t17 W → F6 1 t17 w) ∧ (F7 0 o4 W → F7 1 o4 w) ∧ True)
    ) ∧
    (∀ o4 : Value, ∀ W, At w0 w W → C 1 W → F7 1 o4 W → J o4 W)) :
    DrawP Try.prog 33 (opsOf Try.f73 3) [0] [ib0] [4] J w := by
  obtain ⟨ct12, y1, h⟩ := h
  obtain ⟨ct13, y2, h⟩ := h
  obtain ⟨ct14, y3, h⟩ := h
  obtain ⟨ct16, y5, h⟩ := h
  obtain ⟨o6, o7, o8, fin⟩ := h
  have hall : ∀ _ : Nat → Value,
    (∀ k : Nat, 0 ≤ k → k ≤ 0 → ∀ W, SR w0 { w with drawn := w.drawn + 1 } W → C k W → 
      (Ext W W ∧ C k W ∧ ib0 = ib0)
    ) ∧
    (∀ t11 : Value, ∀ k : Nat, 0 ≤ k → k ≤ 0 → ∀ W, SR w0 { w with drawn := w.drawn + 1 } W → C k W → t11 = ib0 → 
      Does Try.prog (Instr.indexAt 34 t11 (Go.Value.int Go.IntKind.i64 0)) W fun t12 w =>
      (Ext W w ∧ C k w ∧ t12 = ct12)
    ) ∧
    (∀ t12 : Value, ∀ k : Nat, 0 ≤ k → k ≤ 0 → ∀ W, SR w0 { w with drawn := w.drawn + 1 } W → C k W → t12 = ct12 → 
      Does Try.prog (Instr.loadAt 5 t12) W fun t13 w =>
      (Ext W w ∧ C k w ∧ t13 = ct13)
    ) ∧
    (∀ t13 : Value, ∀ k : Nat, 0 ≤ k → k ≤ 0 → ∀ W, SR w0 { w with drawn := w.drawn + 1 } W → C k W → t13 = ct13 → 
      Does Try.prog (convert 5 3 t13) W fun t14 w =>
      (Ext W w ∧ C k w ∧ t14 = ct14)
    ) ∧
    (∀ k : Nat, 0 ≤ k → k ≤ 0 → ∀ W, SR w0 { w with drawn := w.drawn + 1 } W → C k W → 
      (Ext W W ∧ C k W ∧ ib0 = ib0)
    ) ∧
    (∀ t15 : Value, ∀ k : Nat, 0 ≤ k → k ≤ 0 → ∀ W, SR w0 { w with drawn := w.drawn + 1 } W → C k W → t15 = ib0 → 
      Does Try.prog (Instr.sliceAt 34 t15 (some (Go.Value.int Go.IntKind.i64 1)) none none) W fun t16 w =>
      (Ext W w ∧ C k w ∧ t16 = ct16)
    ) ∧
    (∀ t14 t16 : Value, ∀ k : Nat, 0 ≤ k → k ≤ 0 → ∀ W, SR w0 { w with drawn := w.drawn + 1 } W → C k W → t14 = ct14 → t16 = ct16 → 
      Call Try.prog 94 #[t14, t16] W fun t17 w =>
      (Ext W w ∧ C k w ∧ F6 k t17 w)
    ) ∧
    (∀ k : Nat, 0 ≤ k → k ≤ 0 → ∀ W, SR w0 { w with drawn := w.drawn + 1 } W → C k W → 
      Does Try.prog (Instr.alloc 72 true (.tuple #[])) W fun o4 w =>
      (Ext W w ∧ C k w ∧ F7 k o4 w)
    ) ∧
    (∀ o4 t17 : Value, ∀ W, SR w0 { w with drawn := w.drawn + 1 } W → C 0 W → F7 0 o4 W → F6 0 t17 W → 
      Does Try.prog (Instr.storeAt 72 o4 t17) W fun _ w =>
      (SR w0 W w ∧ C 1 w ∧ True ∧ (∀ v : Value, v = ib0 → v = ib0) ∧ (∀ v : Value, v = ct12 → v = ct12) ∧ (∀ v : Value, v = ct13 → v = ct13) ∧ (∀ v : Value, v = ct14 → v = ct14) ∧ (∀ v : Value, v = ib0 → v = ib0) ∧ (∀ v : Value, v = ct16 → v = ct16) ∧ (F6 0 t17 W → F6 1 t17 w) ∧ (F7 0 o4 W → F7 1 o4 w) ∧ True)
    ) ∧ True := fun _ => ⟨
    fun  k hk1 hk2 W hS hC  => (by exact ⟨Ext.refl _, hC, rfl⟩),
    fun t11 k hk1 hk2 W hS hC ht11 => (by subst ht11; exact ⟨_, W, y1 W ⟨SR.at hw hS, k, hk1, hk2, hC⟩, Ext.refl _, hC, rfl⟩),
    fun t12 k hk1 hk2 W hS hC ht12 => (by subst ht12; exact ⟨_, W, y2 W ⟨SR.at hw hS, k, hk1, hk2, hC⟩, Ext.refl _, hC, rfl⟩),
    fun t13 k hk1 hk2 W hS hC ht13 => (by subst ht13; exact ⟨_, W, y3 W ⟨SR.at hw hS, k, hk1, hk2, hC⟩, Ext.refl _, hC, rfl⟩),
    fun  k hk1 hk2 W hS hC  => (by exact ⟨Ext.refl _, hC, rfl⟩),
    fun t15 k hk1 hk2 W hS hC ht15 => (by subst ht15; exact ⟨_, W, y5 W ⟨SR.at hw hS, k, hk1, hk2, hC⟩, Ext.refl _, hC, rfl⟩),
    fun t14 t16 k hk1 hk2 W hS hC ht14 ht16 => (by obtain rfl : k = 0 := (by omega); subst ht14; subst ht16; exact o6  W (SR.at hw hS) hC ),
    fun  k hk1 hk2 W hS hC  => (by obtain rfl : k = 0 := (by omega); exact o7  W (SR.at hw hS) hC ),
    fun o4 t17 W hS hC ho4 ht17 => (by exact Does.mono (o8 o4 t17 W (SR.at hw hS) hC ho4 ht17) fun _ _ h => ⟨SR.of h.1, h.2.1, h.2.2.1, fun _ h => h, fun _ h => h, fun _ h => h, fun _ h => h, fun _ h => h, fun _ h => h, h.2.2.2.1, h.2.2.2.2.1, trivial⟩),
    trivial⟩
  have hst := lkF2_st (S := Ext) (l := [(0, fun _ v _ => v = ib0), (1, fun _ v _ => v = ct12), (2, fun _ v _ => v = ct13), (3, fun _ v _ => v = ct14), (4, fun _ v _ => v = ib0), (5, fun _ v _ => v = ct16), (6, F6), (7, F7)]) (fun p hp => by
    simp only [List.mem_cons, List.not_mem_nil, or_false] at hp
    rcases hp with rfl | rfl | rfl | rfl | rfl | rfl | rfl | rfl
    · exact fun _ => FSt.const _
    · exact fun _ => FSt.const _
    · exact fun _ => FSt.const _
    · exact fun _ => FSt.const _
    · exact fun _ => FSt.const _
    · exact fun _ => FSt.const _
    · exact s6
    · exact s7
    )
  have hf : ∀ o4 : Value, ∀ W, SR w0 { w with drawn := w.drawn + 1 } W → C 1 W → F7 1 o4 W → J o4 W := fun o4 W hS hC ho4 => (by exact fin o4 W (SR.at hw hS) hC ho4)
  exact draw_phi2 (T := [8]) Ext (SR w0) C (lkF2 [(0, fun _ v _ => v = ib0), (1, fun _ v _ => v = ct12), (2, fun _ v _ => v = ct13), (3, fun _ v _ => v = ct14), (4, fun _ v _ => v = ib0), (5, fun _ v _ => v = ct16), (6, F6), (7, F7)]) (by kernel_rfl) (SR.refl w0) (fun _ _ _ => SR.trans) (fun _ _ => SR.ofExt) hst h0 (Eq.mp (by kernel_rfl) hall) (Eq.mp (by kernel_rfl) hf)

theorem h9_5 {il2 iids5 ii6 : Value} {w : World} {J : VF 0} (w0 : World) (C : Nat → World → Prop) (F5 F6 F7 : Nat → Value → World → Prop) 
    (hw : Ext w0 w) (s5 : ∀ k, FSt Ext (F5 k)) (s6 : ∀ k, FSt Ext (F6 k)) (s7 : ∀ k, FSt Ext (F7 k)) (h0 : C 0 { w with drawn := w.drawn + 1 })
    (h :     Quiet Try.prog (Stg w0 w C 0 0) (Instr.loadAt 23 iids5) w fun t13 w =>
    Quiet Try.prog (Stg w0 w C 0 1) (Instr.loadAt 22 il2) w fun t14 w =>
    Quiet Try.prog (Stg w0 w C 0 1) (Instr.indexAt 22 t14 ii6) w fun t16 w =>
    Quiet Try.prog (Stg w0 w C 0 1) (Instr.loadAt 34 t16) w fun t17 w =>
    (∀ W, At w0 w W → C 0 W → 
      Call Try.prog 44 #[t17] W fun t18 w =>
      (Ext W w ∧ C 0 w ∧ F5 0 t18 w)
    ) ∧
    (∀ t18 : Value, ∀ W, At w0 w W → C 0 W → F5 0 t18 W → 
      Does Try.prog (Instr.buildSlice 23 1 #[(0, t18)]) W fun t19 w =>
      (Ext W w ∧ C 0 w ∧ F6 0 t19 w)
    ) ∧
    (∀ t19 : Value, ∀ W, At w0 w W → C 0 W → F6 0 t19 W → 
      Does Try.prog (Builtin.append_ #[23, 23] 23 #[t13, t19]) W fun t20 w =>
      (At w0 W w ∧ C 1 w ∧ F7 1 t20 w ∧ (∀ v, F5 0 v W → F5 1 v w) ∧ (F6 0 t19 W → F6 1 t19 w) ∧ True)
    ) ∧
    (∀ t20 : Value, ∀ W, At w0 w W → C 1 W → F7 1 t20 W → 
      Does Try.prog (Instr.storeAt 23 iids5 t20) W fun _ w =>
      (At w0 W w ∧ C 2 w ∧ True ∧ (∀ v, F5 1 v W → F5 2 v w) ∧ (∀ v, F6 1 v W → F6 2 v w) ∧ (F7 1 t20 W → F7 2 t20 w) ∧ True)
    ) ∧
    (∀ W, At w0 w W → C 2 W → J  W)) :
    DrawP Try.prog 22 (opsOf Try.f9 5) [2, 5, 6] [il2, iids5, ii6] [] J w := by
  obtain ⟨ct13, y0, h⟩ := h
  obtain ⟨ct14, y1, h⟩ := h
  obtain ⟨ct16, y3, h⟩ := h
  obtain ⟨ct17, y4, h⟩ := h
  obtain ⟨o5, o6, o7, o8, fin⟩ := h
  have hall : ∀ _ : Nat → Value,
    (∀ k : Nat, 0 ≤ k → k ≤ 0 → ∀ W, SR w0 { w with drawn := w.drawn + 1 } W → C k W → 
      Does Try.prog (Instr.loadAt 23 iids5) W fun t13 w =>
      (Ext W w ∧ C k w ∧ t13 = ct13)
    ) ∧
    (∀ k : Nat, 0 ≤ k → k ≤ 1 → ∀ W, SR w0 { w with drawn := w.drawn + 1 } W → C k W → 
      Does Try.prog (Instr.loadAt 22 il2) W fun t14 w =>
      (Ext W w ∧ C k w ∧ t14 = ct14)
    ) ∧
    (∀ k : Nat, 0 ≤ k → k ≤ 1 → ∀ W, SR w0 { w with drawn := w.drawn + 1 } W → C k W → 
      (Ext W W ∧ C k W ∧ ii6 = ii6)
    ) ∧
    (∀ t14 t15 : Value, ∀ k : Nat, 0 ≤ k → k ≤ 1 → ∀ W, SR w0 { w with drawn := w.drawn + 1 } W → C k W → t14 = ct14 → t15 = ii6 → 
      Does Try.prog (Instr.indexAt 22 t14 t15) W fun t16 w =>
      (Ext W w ∧ C k w ∧ t16 = ct16)
    ) ∧
    (∀ t16 : Value, ∀ k : Nat, 0 ≤ k → k ≤ 1 → ∀ W, SR w0 { w with drawn := w.drawn + 1 } W → C k W → t16 = ct16 → 
      Does Try.prog (Instr.loadAt 34 t16) W fun t17 w =>
      (Ext W w ∧ C k w ∧ t17 = ct17)
    ) ∧
    (∀ t17 : Value, ∀ k : Nat, 0 ≤ k → k ≤ 0 → ∀ W, SR w0 { w with drawn := w.drawn + 1 } W → C k W → t17 = ct17 → 
      Call Try.prog 44 #[t17] W fun t18 w =>
      (Ext W w ∧ C k w ∧ F5 k t18 w)
    ) ∧
    (∀ t18 : Value, ∀ k : Nat, 0 ≤ k → k ≤ 0 → ∀ W, SR w0 { w with drawn := w.drawn + 1 } W → C k W → F5 k t18 W → 
      Does Try.prog (Instr.buildSlice 23 1 #[(0, t18)]) W fun t19 w =>
      (Ext W w ∧ C k w ∧ F6 k t19 w)
    ) ∧
    (∀ t13 t19 : Value, ∀ W, SR w0 { w with drawn := w.drawn + 1 } W → C 0 W → t13 = ct13 → F6 0 t19 W → 
      Does Try.prog (Builtin.append_ #[23, 23] 23 #[t13, t19]) W fun t20 w =>
      (SR w0 W w ∧ C 1 w ∧ F7 1 t20 w ∧ (t13 = ct13 → t13 = ct13) ∧ (∀ v : Value, v = ct14 → v = ct14) ∧ (∀ v : Value, v = ii6 → v = ii6) ∧ (∀ v : Value, v = ct16 → v = ct16) ∧ (∀ v : Value, v = ct17 → v = ct17) ∧ (∀ v : Value, F5 0 v W → F5 1 v w) ∧ (F6 0 t19 W → F6 1 t19 w) ∧ True)
    ) ∧
    (∀ t20 : Value, ∀ W, SR w0 { w with drawn := w.drawn + 1 } W → C 1 W → F7 1 t20 W → 
      Does Try.prog (Instr.storeAt 23 iids5 t20) W fun _ w =>
      (SR w0 W w ∧ C 2 w ∧ True ∧ (∀ v : Value, v = ct13 → v = ct13) ∧ (∀ v : Value, v = ct14 → v = ct14) ∧ (∀ v : Value, v = ii6 → v = ii6) ∧ (∀ v : Value, v = ct16 → v = ct16) ∧ (∀ v : Value, v = ct17 → v = ct17) ∧ (∀ v : Value, F5 1 v W → F5 2 v w) ∧ (∀ v : Value, F6 1 v W → F6 2 v w) ∧ (F7 1 t20 W → F7 2 t20 w) ∧ True)
    ) ∧ True := fun _ => ⟨
    fun  k hk1 hk2 W hS hC  => (by exact ⟨_, W, y0 W ⟨SR.at hw hS, k, hk1, hk2, hC⟩, Ext.refl _, hC, rfl⟩),
    fun  k hk1 hk2 W hS hC  => (by exact ⟨_, W, y1 W ⟨SR.at hw hS, k, hk1, hk2, hC⟩, Ext.refl _, hC, rfl⟩),
    fun  k hk1 hk2 W hS hC  => (by exact ⟨Ext.refl _, hC, rfl⟩),
    fun t14 t15 k hk1 hk2 W hS hC ht14 ht15 => (by subst ht14; subst ht15; exact ⟨_, W, y3 W ⟨SR.at hw hS, k, hk1, hk2, hC⟩, Ext.refl _, hC, rfl⟩),
    fun t16 k hk1 hk2 W hS hC ht16 => (by subst ht16; exact ⟨_, W, y4 W ⟨SR.at hw hS, k, hk1, hk2, hC⟩, Ext.refl _, hC, rfl⟩),
    fun t17 k hk1 hk2 W hS hC ht17 => (by obtain rfl : k = 0 := (by omega); subst ht17; exact o5  W (SR.at hw hS) hC ),
    fun t18 k hk1 hk2 W hS hC ht18 => (by obtain rfl : k = 0 := (by omega); exact o6 t18 W (SR.at hw hS) hC ht18),
    fun t13 t19 W hS hC ht13 ht19 => (by subst ht13; exact Does.mono (o7 t19 W (SR.at hw hS) hC ht19) fun _ _ h => ⟨SR.of h.1, h.2.1, h.2.2.1, fun h => h, fun _ h => h, fun _ h => h, fun _ h => h, fun _ h => h, h.2.2.2.1, h.2.2.2.2.1, trivial⟩),
    fun t20 W hS hC ht20 => (by exact Does.mono (o8 t20 W (SR.at hw hS) hC ht20) fun _ _ h => ⟨SR.of h.1, h.2.1, h.2.2.1, fun _ h => h, fun _ h => h, fun _ h => h, fun _ h => h, fun _ h => h, h.2.2.2.1, h.2.2.2.2.1, h.2.2.2.2.2.1, trivial⟩),
    trivial⟩
  have hst := lkF2_st (S := Ext) (l := [(0, fun _ v _ => v = ct13), (1, fun _ v _ => v = ct14), (2, fun _ v _ => v = ii6), (3, fun _ v _ => v = ct16), (4, fun _ v _ => v = ct17), (5, F5), (6, F6), (7, F7)]) (fun p hp => by
    simp only [List.mem_cons, List.not_mem_nil, or_false] at hp
    rcases hp with rfl | rfl | rfl | rfl | rfl | rfl | rfl | rfl
    · exact fun _ => FSt.const _
    · exact fun _ => FSt.const _
    · exact fun _ => FSt.const _
    · exact fun _ => FSt.const _
    · exact fun _ => FSt.const _
    · exact s5
    · exact s6
    · exact s7
    )
  have hf : ∀ W, SR w0 { w with drawn := w.drawn + 1 } W → C 2 W → J  W := fun  W hS hC  => (by exact fin  W (SR.at hw hS) hC )
  exact draw_phi2 (T := [7, 8]) Ext (SR w0) C (lkF2 [(0, fun _ v _ => v = ct13), (1, fun _ v _ => v = ct14), (2, fun _ v _ => v = ii6), (3, fun _ v _ => v = ct16), (4, fun _ v _ => v = ct17), (5, F5), (6, F6), (7, F7)]) (by kernel_rfl) (SR.refl w0) (fun _ _ _ => SR.trans) (fun _ _ => SR.ofExt) hst h0 (Eq.mp (by kernel_rfl) hall) (Eq.mp (by kernel_rfl) hf)

end Go.Proofs.Ytcncgkkilgmphaa
