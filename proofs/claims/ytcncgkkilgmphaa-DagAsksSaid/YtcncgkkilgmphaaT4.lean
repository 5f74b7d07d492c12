import Derived.Test.YtcncgkkilgmphaaDr
import Derived.Test.YtcncgkkilgmphaaProg
set_option linter.unusedVariables false
set_option maxRecDepth 100000
namespace Go.Proofs.Ytcncgkkilgmphaa
open Go
theorem q103_4 {idata0 ia1 icmp3 ij9 : Value} {w : World} {J : VF 1} (C : World → Prop) (hC : C { w with drawn := w.drawn + 1 })
    (h : ∀ _ : Nat → Value,
    Quiet Try.prog C (binOp .gtr 3 ij9 ia1) w fun t20 w =>
    JoinP 1 (fun j1 => GuardP t20 true (
      Quiet Try.prog C (Instr.indexAt 23 idata0 ij9) w fun t25 w =>
      Quiet Try.prog C (Instr.loadAt 9 t25) w fun t26 w =>
      Quiet Try.prog C (binOp .sub 3 ij9 (Go.Value.int Go.IntKind.i64 1)) w fun t29 w =>
      Quiet Try.prog C (Instr.indexAt 23 idata0 t29) w fun t30 w =>
      Quiet Try.prog C (Instr.loadAt 9 t30) w fun t31 w =>
      QCallV Try.prog C icmp3 #[t26, t31] w fun t32 w =>
      Quiet Try.prog C (binOp .lss 3 t32 (Go.Value.int Go.IntKind.i64 0)) w fun t33 w =>
      j1 t33 w
    ) (j1 undef w))
    (fun t33 w => ∀ _ : Nat → Value,
    PickP t20 t33 (Go.Value.bool false) fun t34 =>
    ∀ W, C W → J t34 W
    )
    ) : DrawP Try.prog 53 (opsOf Try.f103 4) [0, 1, 3, 9] [idata0, ia1, icmp3, ij9] [34] J w :=
  draw_quiet C (by kernel_rfl) hC (Eq.mp (by kernel_rfl) h)

theorem q104_5 {it0 io1 ir4 it12 : Value} {w : World} {J : VF 1} (C : World → Prop) (hC : C { w with drawn := w.drawn + 1 })
    (h : ∀ _ : Nat → Value,
    Quiet Try.prog C (Instr.indexAt 23 it0 it12) w fun t43 w =>
    Quiet Try.prog C (Instr.loadAt 9 t43) w fun t44 w =>
    Quiet Try.prog C (Instr.indexAt 23 it0 io1) w fun t47 w =>
    Quiet Try.prog C (Instr.loadAt 9 t47) w fun t48 w =>
    QCallV Try.prog C ir4 #[t44, t48] w fun t49 w =>
    Quiet Try.prog C (binOp .lss 3 t49 (Go.Value.int Go.IntKind.i64 0)) w fun t50 w =>
    ∀ W, C W → J t50 W
    ) : DrawP Try.prog 220 (opsOf Try.f104 5) [0, 1, 4, 12] [it0, io1, ir4, it12] [50] J w :=
  draw_quiet C (by kernel_rfl) hC (Eq.mp (by kernel_rfl) h)

theorem q104_17 {it0 iA2 ir4 it16 : Value} {w : World} {J : VF 1} (C : World → Prop) (hC : C { w with drawn := w.drawn + 1 })
    (h : ∀ _ : Nat → Value,
    Quiet Try.prog C (Instr.indexAt 23 it0 iA2) w fun t95 w =>
    Quiet Try.prog C (Instr.loadAt 9 t95) w fun t96 w =>
    Quiet Try.prog C (Instr.indexAt 23 it0 it16) w fun t99 w =>
    Quiet Try.prog C (Instr.loadAt 9 t99) w fun t100 w =>
    QCallV Try.prog C ir4 #[t96, t100] w fun t101 w =>
    Quiet Try.prog C (binOp .lss 3 t101 (Go.Value.int Go.IntKind.i64 0)) w fun t102 w =>
    Quiet Try.prog C (Op.unary Go.UnOp.not t102) w fun t103 w =>
    ∀ W, C W → J t103 W
    ) : DrawP Try.prog 220 (opsOf Try.f104 17) [0, 2, 4, 16] [it0, iA2, ir4, it16] [103] J w :=
  draw_quiet C (by kernel_rfl) hC (Eq.mp (by kernel_rfl) h)

theorem q104_35 {it0 ir4 it22 it23 : Value} {w : World} {J : VF 1} (C : World → Prop) (hC : C { w with drawn := w.drawn + 1 })
    (h : ∀ _ : Nat → Value,
    Quiet Try.prog C (binOp .sub 3 it22 it23) w fun t162 w =>
    Quiet Try.prog C (Instr.indexAt 23 it0 t162) w fun t163 w =>
    Quiet Try.prog C (Instr.loadAt 9 t163) w fun t164 w =>
    Quiet Try.prog C (Instr.indexAt 23 it0 it23) w fun t167 w =>
    Quiet Try.prog C (Instr.loadAt 9 t167) w fun t168 w =>
    QCallV Try.prog C ir4 #[t164, t168] w fun t169 w =>
    Quiet Try.prog C (binOp .lss 3 t169 (Go.Value.int Go.IntKind.i64 0)) w fun t170 w =>
    Quiet Try.prog C (Op.unary Go.UnOp.not t170) w fun t171 w =>
    ∀ W, C W → J t171 W
    ) : DrawP Try.prog 220 (opsOf Try.f104 35) [0, 4, 22, 23] [it0, ir4, it22, it23] [171] J w :=
  draw_quiet C (by kernel_rfl) hC (Eq.mp (by kernel_rfl) h)

theorem q64_1 {ia0 ib1 it2 : Value} {w : World} {J : VF 1} (C : World → Prop) (hC : C { w with drawn := w.drawn + 1 })
    (h : ∀ _ : Nat → Value,
    Quiet Try.prog C (Instr.loadAt 45 it2) w fun t6 w =>
    NilCheckP t6 fun t7 =>
    Quiet Try.prog C (Instr.fieldAt 92 t7 0) w fun t8 w =>
    Quiet Try.prog C (Instr.loadAt 90 t8) w fun t9 w =>
    Quiet Try.prog C (Instr.lookup 90 t9 ib1 false) w fun t11 w =>
    Quiet Try.prog C (Instr.field 94 t11 1) w fun t12 w =>
    Quiet Try.prog C (Instr.loadAt 45 it2) w fun t13 w =>
    NilCheckP t13 fun t14 =>
    Quiet Try.prog C (Instr.fieldAt 92 t14 0) w fun t15 w =>
    Quiet Try.prog C (Instr.loadAt 90 t15) w fun t16 w =>
    Quiet Try.prog C (Instr.lookup 90 t16 ia0 false) w fun t18 w =>
    Quiet Try.prog C (Instr.field 94 t18 1) w fun t19 w =>
    Quiet Try.prog C (binOp .sub 3 t12 t19) w fun t20 w =>
    ∀ W, C W → J t20 W
    ) : DrawP Try.prog 21 (opsOf Try.f64 1) [0, 1, 2] [ia0, ib1, it2] [5] J w :=
  draw_quiet C (by kernel_rfl) hC (Eq.mp (by kernel_rfl) h)

theorem p103_6 {idata0 ij9 : Value} {w : World} {J : VF 0} (E S : World → World → Prop) (C : Nat → World → Prop) (F4 F7 F8 F9 F12 F13 F14 F16 : Value → World → Prop) 
    (he : ∀ W, E W W) (hES : ∀ W W1, E W W1 → S W W1) (hr : ∀ W, S W W) (ht : ∀ a b c, S a b → S b c → S a c) (s4 : FSt E F4) (s7 : FSt E F7) (s8 : FSt E F8) (s9 : FSt E F9) (s12 : FSt E F12) (s13 : FSt E F13) (s14 : FSt E F14) (s16 : FSt E F16)
    (h0 : C 0 { w with drawn := w.drawn + 1 })
    (o4 : ∀ k : Nat, 0 ≤ k → k ≤ 1 → ∀ W, S { w with drawn := w.drawn + 1 } W → C k W → 
      Does Try.prog (binOp .sub 3 ij9 (Go.Value.int Go.IntKind.i64 1)) W fun t41 w =>
      (E W w ∧ C k w ∧ F4 t41 w)
    )
    (o7 : ∀ W, S { w with drawn := w.drawn + 1 } W → C 0 W → 
      Does Try.prog (binOp .sub 3 ij9 (Go.Value.int Go.IntKind.i64 1)) W fun t44 w =>
      (E W w ∧ C 0 w ∧ F7 t44 w)
    )
    (o8 : ∀ t44 : Value, ∀ W, S { w with drawn := w.drawn + 1 } W → C 0 W → F7 t44 W → 
      Does Try.prog (Instr.indexAt 23 idata0 t44) W fun t45 w =>
      (E W w ∧ C 0 w ∧ F8 t45 w)
    )
    (o9 : ∀ t45 : Value, ∀ W, S { w with drawn := w.drawn + 1 } W → C 0 W → F8 t45 W → 
      Does Try.prog (Instr.loadAt 9 t45) W fun t46 w =>
      (E W w ∧ C 0 w ∧ F9 t46 w)
    )
    (o12 : ∀ k : Nat, 0 ≤ k → k ≤ 1 → ∀ W, S { w with drawn := w.drawn + 1 } W → C k W → 
      Does Try.prog (Instr.indexAt 23 idata0 ij9) W fun t49 w =>
      (E W w ∧ C k w ∧ F12 t49 w)
    )
    (o13 : ∀ t49 : Value, ∀ W, S { w with drawn := w.drawn + 1 } W → C 0 W → F12 t49 W → 
      Does Try.prog (Instr.loadAt 9 t49) W fun t50 w =>
      (E W w ∧ C 0 w ∧ F13 t50 w)
    )
    (o14 : ∀ W, S { w with drawn := w.drawn + 1 } W → C 0 W → 
      Does Try.prog (Instr.indexAt 23 idata0 ij9) W fun t51 w =>
      (E W w ∧ C 0 w ∧ F14 t51 w)
    )
    (o15 : ∀ t51 t46 : Value, ∀ W, S { w with drawn := w.drawn + 1 } W → C 0 W → F14 t51 W → F9 t46 W → 
      Does Try.prog (Instr.storeAt 9 t51 t46) W fun _ w =>
      (S W w ∧ C 1 w ∧ True ∧ (∀ v, F4 v W → F4 v w) ∧ (∀ v, F7 v W → F7 v w) ∧ (∀ v, F8 v W → F8 v w) ∧ (∀ v, F9 v W → F9 v w) ∧ (∀ v, F12 v W → F12 v w) ∧ (∀ v, F13 v W → F13 v w) ∧ (∀ v, F14 v W → F14 v w) ∧ True)
    )
    (o16 : ∀ t41 : Value, ∀ W, S { w with drawn := w.drawn + 1 } W → C 1 W → F4 t41 W → 
      Does Try.prog (Instr.indexAt 23 idata0 t41) W fun t52 w =>
      (E W w ∧ C 1 w ∧ F16 t52 w)
    )
    (o17 : ∀ t52 t50 : Value, ∀ W, S { w with drawn := w.drawn + 1 } W → C 1 W → F16 t52 W → F13 t50 W → 
      Does Try.prog (Instr.storeAt 9 t52 t50) W fun _ w =>
      (S W w ∧ C 2 w ∧ True ∧ (∀ v, F4 v W → F4 v w) ∧ (∀ v, F7 v W → F7 v w) ∧ (∀ v, F8 v W → F8 v w) ∧ (∀ v, F9 v W → F9 v w) ∧ (∀ v, F12 v W → F12 v w) ∧ (∀ v, F13 v W → F13 v w) ∧ (∀ v, F14 v W → F14 v w) ∧ (∀ v, F16 v W → F16 v w) ∧ True)
    )
    (fin : ∀ W, S { w with drawn := w.drawn + 1 } W → C 2 W → J  W) :
    DrawP Try.prog 53 (opsOf Try.f103 6) [0, 9] [idata0, ij9] [] J w := by
  have hall : ∀ _ : Nat → Value,
    (∀ k : Nat, 0 ≤ k → k ≤ 0 → ∀ W, S { w with drawn := w.drawn + 1 } W → C k W → 
      (E W W ∧ C k W ∧ idata0 = idata0)
    ) ∧
    (∀ k : Nat, 0 ≤ k → k ≤ 0 → ∀ W, S { w with drawn := w.drawn + 1 } W → C k W → 
      (E W W ∧ C k W ∧ ij9 = ij9)
    ) ∧
    (∀ k : Nat, 0 ≤ k → k ≤ 1 → ∀ W, S { w with drawn := w.drawn + 1 } W → C k W → 
      (E W W ∧ C k W ∧ idata0 = idata0)
    ) ∧
    (∀ k : Nat, 0 ≤ k → k ≤ 1 → ∀ W, S { w with drawn := w.drawn + 1 } W → C k W → 
      (E W W ∧ C k W ∧ ij9 = ij9)
    ) ∧
    (∀ t40 : Value, ∀ k : Nat, 0 ≤ k → k ≤ 1 → ∀ W, S { w with drawn := w.drawn + 1 } W → C k W → t40 = ij9 → 
      Does Try.prog (binOp .sub 3 t40 (Go.Value.int Go.IntKind.i64 1)) W fun t41 w =>
      (E W w ∧ C k w ∧ F4 t41 w)
    ) ∧
    (∀ k : Nat, 0 ≤ k → k ≤ 0 → ∀ W, S { w with drawn := w.drawn + 1 } W → C k W → 
      (E W W ∧ C k W ∧ idata0 = idata0)
    ) ∧
    (∀ k : Nat, 0 ≤ k → k ≤ 0 → ∀ W, S { w with drawn := w.drawn + 1 } W → C k W → 
      (E W W ∧ C k W ∧ ij9 = ij9)
    ) ∧
    (∀ t43 : Value, ∀ k : Nat, 0 ≤ k → k ≤ 0 → ∀ W, S { w with drawn := w.drawn + 1 } W → C k W → t43 = ij9 → 
      Does Try.prog (binOp .sub 3 t43 (Go.Value.int Go.IntKind.i64 1)) W fun t44 w =>
      (E W w ∧ C k w ∧ F7 t44 w)
    ) ∧
    (∀ t42 t44 : Value, ∀ k : Nat, 0 ≤ k → k ≤ 0 → ∀ W, S { w with drawn := w.drawn + 1 } W → C k W → t42 = idata0 → F7 t44 W → 
      Does Try.prog (Instr.indexAt 23 t42 t44) W fun t45 w =>
      (E W w ∧ C k w ∧ F8 t45 w)
    ) ∧
    (∀ t45 : Value, ∀ k : Nat, 0 ≤ k → k ≤ 0 → ∀ W, S { w with drawn := w.drawn + 1 } W → C k W → F8 t45 W → 
      Does Try.prog (Instr.loadAt 9 t45) W fun t46 w =>
      (E W w ∧ C k w ∧ F9 t46 w)
    ) ∧
    (∀ k : Nat, 0 ≤ k → k ≤ 1 → ∀ W, S { w with drawn := w.drawn + 1 } W → C k W → 
      (E W W ∧ C k W ∧ idata0 = idata0)
    ) ∧
    (∀ k : Nat, 0 ≤ k → k ≤ 1 → ∀ W, S { w with drawn := w.drawn + 1 } W → C k W → 
      (E W W ∧ C k W ∧ ij9 = ij9)
    ) ∧
    (∀ t47 t48 : Value, ∀ k : Nat, 0 ≤ k → k ≤ 1 → ∀ W, S { w with drawn := w.drawn + 1 } W → C k W → t47 = idata0 → t48 = ij9 → 
      Does Try.prog (Instr.indexAt 23 t47 t48) W fun t49 w =>
      (E W w ∧ C k w ∧ F12 t49 w)
    ) ∧
    (∀ t49 : Value, ∀ k : Nat, 0 ≤ k → k ≤ 0 → ∀ W, S { w with drawn := w.drawn + 1 } W → C k W → F12 t49 W → 
      Does Try.prog (Instr.loadAt 9 t49) W fun t50 w =>
      (E W w ∧ C k w ∧ F13 t50 w)
    ) ∧
    (∀ t37 t38 : Value, ∀ k : Nat, 0 ≤ k → k ≤ 0 → ∀ W, S { w with drawn := w.drawn + 1 } W → C k W → t37 = idata0 → t38 = ij9 → 
      Does Try.prog (Instr.indexAt 23 t37 t38) W fun t51 w =>
      (E W w ∧ C k w ∧ F14 t51 w)
    ) ∧
    (∀ t51 t46 : Value, ∀ W, S { w with drawn := w.drawn + 1 } W → C 0 W → F14 t51 W → F9 t46 W → 
      Does Try.prog (Instr.storeAt 9 t51 t46) W fun _ w =>
      (S W w ∧ C 1 w ∧ True ∧ (∀ v : Value, v = idata0 → v = idata0) ∧ (∀ v : Value, v = ij9 → v = ij9) ∧ (∀ v : Value, v = idata0 → v = idata0) ∧ (∀ v : Value, v = ij9 → v = ij9) ∧ (∀ v : Value, F4 v W → F4 v w) ∧ (∀ v : Value, v = idata0 → v = idata0) ∧ (∀ v : Value, v = ij9 → v = ij9) ∧ (∀ v : Value, F7 v W → F7 v w) ∧ (∀ v : Value, F8 v W → F8 v w) ∧ (∀ v : Value, F9 v W → F9 v w) ∧ (∀ v : Value, v = idata0 → v = idata0) ∧ (∀ v : Value, v = ij9 → v = ij9) ∧ (∀ v : Value, F12 v W → F12 v w) ∧ (∀ v : Value, F13 v W → F13 v w) ∧ (∀ v : Value, F14 v W → F14 v w) ∧ True)
    ) ∧
    (∀ t39 t41 : Value, ∀ k : Nat, 1 ≤ k → k ≤ 1 → ∀ W, S { w with drawn := w.drawn + 1 } W → C k W → t39 = idata0 → F4 t41 W → 
      Does Try.prog (Instr.indexAt 23 t39 t41) W fun t52 w =>
      (E W w ∧ C k w ∧ F16 t52 w)
    ) ∧
    (∀ t52 t50 : Value, ∀ W, S { w with drawn := w.drawn + 1 } W → C 1 W → F16 t52 W → F13 t50 W → 
      Does Try.prog (Instr.storeAt 9 t52 t50) W fun _ w =>
      (S W w ∧ C 2 w ∧ True ∧ (∀ v : Value, v = idata0 → v = idata0) ∧ (∀ v : Value, v = ij9 → v = ij9) ∧ (∀ v : Value, v = idata0 → v = idata0) ∧ (∀ v : Value, v = ij9 → v = ij9) ∧ (∀ v : Value, F4 v W → F4 v w) ∧ (∀ v : Value, v = idata0 → v = idata0) ∧ (∀ v : Value, v = ij9 → v = ij9) ∧ (∀ v : Value, F7 v W → F7 v w) ∧ (∀ v : Value, F8 v W → F8 v w) ∧ (∀ v : Value, F9 v W → F9 v w) ∧ (∀ v : Value, v = idata0 → v = idata0) ∧ (∀ v : Value, v = ij9 → v = ij9) ∧ (∀ v : Value, F12 v W → F12 v w) ∧ (∀ v : Value, F13 v W → F13 v w) ∧ (∀ v : Value, F14 v W → F14 v w) ∧ (∀ v : Value, True → True) ∧ (∀ v : Value, F16 v W → F16 v w) ∧ True)
    ) ∧ True := fun _ => ⟨
    fun  k hk1 hk2 W hS hC  => ⟨he W, hC, by first | rfl | simp_all⟩,
    fun  k hk1 hk2 W hS hC  => ⟨he W, hC, by first | rfl | simp_all⟩,
    fun  k hk1 hk2 W hS hC  => ⟨he W, hC, by first | rfl | simp_all⟩,
    fun  k hk1 hk2 W hS hC  => ⟨he W, hC, by first | rfl | simp_all⟩,
    fun t40 k hk1 hk2 W hS hC ht40 => (by subst ht40; exact o4  k hk1 hk2 W hS hC ),
    fun  k hk1 hk2 W hS hC  => ⟨he W, hC, by first | rfl | simp_all⟩,
    fun  k hk1 hk2 W hS hC  => ⟨he W, hC, by first | rfl | simp_all⟩,
    fun t43 k hk1 hk2 W hS hC ht43 => (by obtain rfl : k = 0 := (by omega); subst ht43; exact o7  W hS hC ),
    fun t42 t44 k hk1 hk2 W hS hC ht42 ht44 => (by obtain rfl : k = 0 := (by omega); subst ht42; exact o8 t44 W hS hC ht44),
    fun t45 k hk1 hk2 W hS hC ht45 => (by obtain rfl : k = 0 := (by omega); exact o9 t45 W hS hC ht45),
    fun  k hk1 hk2 W hS hC  => ⟨he W, hC, by first | rfl | simp_all⟩,
    fun  k hk1 hk2 W hS hC  => ⟨he W, hC, by first | rfl | simp_all⟩,
    fun t47 t48 k hk1 hk2 W hS hC ht47 ht48 => (by subst ht47; subst ht48; exact o12  k hk1 hk2 W hS hC ),
    fun t49 k hk1 hk2 W hS hC ht49 => (by obtain rfl : k = 0 := (by omega); exact o13 t49 W hS hC ht49),
    fun t37 t38 k hk1 hk2 W hS hC ht37 ht38 => (by obtain rfl : k = 0 := (by omega); subst ht37; subst ht38; exact o14  W hS hC ),
    fun t51 t46 W hS hC ht51 ht46 => (by exact Does.mono (o15 t51 t46 W hS hC ht51 ht46) fun _ _ h => ⟨h.1, h.2.1, h.2.2.1, fun _ h => h, fun _ h => h, fun _ h => h, fun _ h => h, h.2.2.2.1, fun _ h => h, fun _ h => h, h.2.2.2.2.1, h.2.2.2.2.2.1, h.2.2.2.2.2.2.1, fun _ h => h, fun _ h => h, h.2.2.2.2.2.2.2.1, h.2.2.2.2.2.2.2.2.1, h.2.2.2.2.2.2.2.2.2.1, trivial⟩),
    fun t39 t41 k hk1 hk2 W hS hC ht39 ht41 => (by obtain rfl : k = 1 := (by omega); subst ht39; exact o16 t41 W hS hC ht41),
    fun t52 t50 W hS hC ht52 ht50 => (by exact Does.mono (o17 t52 t50 W hS hC ht52 ht50) fun _ _ h => ⟨h.1, h.2.1, h.2.2.1, fun _ h => h, fun _ h => h, fun _ h => h, fun _ h => h, h.2.2.2.1, fun _ h => h, fun _ h => h, h.2.2.2.2.1, h.2.2.2.2.2.1, h.2.2.2.2.2.2.1, fun _ h => h, fun _ h => h, h.2.2.2.2.2.2.2.1, h.2.2.2.2.2.2.2.2.1, h.2.2.2.2.2.2.2.2.2.1, fun _ h => h, h.2.2.2.2.2.2.2.2.2.2.1, trivial⟩),
    trivial⟩
  have hst := lkF_st (S := E) (l := [(0, fun v _ => v = idata0), (1, fun v _ => v = ij9), (2, fun v _ => v = idata0), (3, fun v _ => v = ij9), (4, F4), (5, fun v _ => v = idata0), (6, fun v _ => v = ij9), (7, F7), (8, F8), (9, F9), (10, fun v _ => v = idata0), (11, fun v _ => v = ij9), (12, F12), (13, F13), (14, F14), (16, F16)]) (fun p hp => by
    simp only [List.mem_cons, List.not_mem_nil, or_false] at hp
    rcases hp with rfl | rfl | rfl | rfl | rfl | rfl | rfl | rfl | rfl | rfl | rfl | rfl | rfl | rfl | rfl | rfl
    · exact FSt.const _
    · exact FSt.const _
    · exact FSt.const _
    · exact FSt.const _
    · exact s4
    · exact FSt.const _
    · exact FSt.const _
    · exact s7
    · exact s8
    · exact s9
    · exact FSt.const _
    · exact FSt.const _
    · exact s12
    · exact s13
    · exact s14
    · exact s16
    )
  have hf : ∀ W, S { w with drawn := w.drawn + 1 } W → C 2 W → J  W := fun  W hS hC  => (by exact fin  W hS hC )
  exact draw_phi (T := [15, 17]) E S C (lkF [(0, fun v _ => v = idata0), (1, fun v _ => v = ij9), (2, fun v _ => v = idata0), (3, fun v _ => v = ij9), (4, F4), (5, fun v _ => v = idata0), (6, fun v _ => v = ij9), (7, F7), (8, F8), (9, F9), (10, fun v _ => v = idata0), (11, fun v _ => v = ij9), (12, F12), (13, F13), (14, F14), (16, F16)]) (by kernel_rfl) hr ht hES hst h0 (Eq.mp (by kernel_rfl) hall) (Eq.mp (by kernel_rfl) hf)

theorem p104_11 {it0 it13 : Value} {w : World} {J : VF 0} (E S : World → World → Prop) (C : Nat → World → Prop) (F4 F7 F8 F9 F12 F13 F14 F16 : Value → World → Prop) 
    (he : ∀ W, E W W) (hES : ∀ W W1, E W W1 → S W W1) (hr : ∀ W, S W W) (ht : ∀ a b c, S a b → S b c → S a c) (s4 : FSt E F4) (s7 : FSt E F7) (s8 : FSt E F8) (s9 : FSt E F9) (s12 : FSt E F12) (s13 : FSt E F13) (s14 : FSt E F14) (s16 : FSt E F16)
    (h0 : C 0 { w with drawn := w.drawn + 1 })
    (o4 : ∀ k : Nat, 0 ≤ k → k ≤ 1 → ∀ W, S { w with drawn := w.drawn + 1 } W → C k W → 
      Does Try.prog (binOp .add 3 it13 (Go.Value.int Go.IntKind.i64 1)) W fun t65 w =>
      (E W w ∧ C k w ∧ F4 t65 w)
    )
    (o7 : ∀ W, S { w with drawn := w.drawn + 1 } W → C 0 W → 
      Does Try.prog (binOp .add 3 it13 (Go.Value.int Go.IntKind.i64 1)) W fun t68 w =>
      (E W w ∧ C 0 w ∧ F7 t68 w)
    )
    (o8 : ∀ t68 : Value, ∀ W, S { w with drawn := w.drawn + 1 } W → C 0 W → F7 t68 W → 
      Does Try.prog (Instr.indexAt 23 it0 t68) W fun t69 w =>
      (E W w ∧ C 0 w ∧ F8 t69 w)
    )
    (o9 : ∀ t69 : Value, ∀ W, S { w with drawn := w.drawn + 1 } W → C 0 W → F8 t69 W → 
      Does Try.prog (Instr.loadAt 9 t69) W fun t70 w =>
      (E W w ∧ C 0 w ∧ F9 t70 w)
    )
    (o12 : ∀ k : Nat, 0 ≤ k → k ≤ 1 → ∀ W, S { w with drawn := w.drawn + 1 } W → C k W → 
      Does Try.prog (Instr.indexAt 23 it0 it13) W fun t73 w =>
      (E W w ∧ C k w ∧ F12 t73 w)
    )
    (o13 : ∀ t73 : Value, ∀ W, S { w with drawn := w.drawn + 1 } W → C 0 W → F12 t73 W → 
      Does Try.prog (Instr.loadAt 9 t73) W fun t74 w =>
      (E W w ∧ C 0 w ∧ F13 t74 w)
    )
    (o14 : ∀ W, S { w with drawn := w.drawn + 1 } W → C 0 W → 
      Does Try.prog (Instr.indexAt 23 it0 it13) W fun t75 w =>
      (E W w ∧ C 0 w ∧ F14 t75 w)
    )
    (o15 : ∀ t75 t70 : Value, ∀ W, S { w with drawn := w.drawn + 1 } W → C 0 W → F14 t75 W → F9 t70 W → 
      Does Try.prog (Instr.storeAt 9 t75 t70) W fun _ w =>
      (S W w ∧ C 1 w ∧ True ∧ (∀ v, F4 v W → F4 v w) ∧ (∀ v, F7 v W → F7 v w) ∧ (∀ v, F8 v W → F8 v w) ∧ (∀ v, F9 v W → F9 v w) ∧ (∀ v, F12 v W → F12 v w) ∧ (∀ v, F13 v W → F13 v w) ∧ (∀ v, F14 v W → F14 v w) ∧ True)
    )
    (o16 : ∀ t65 : Value, ∀ W, S { w with drawn := w.drawn + 1 } W → C 1 W → F4 t65 W → 
      Does Try.prog (Instr.indexAt 23 it0 t65) W fun t76 w =>
      (E W w ∧ C 1 w ∧ F16 t76 w)
    )
    (o17 : ∀ t76 t74 : Value, ∀ W, S { w with drawn := w.drawn + 1 } W → C 1 W → F16 t76 W → F13 t74 W → 
      Does Try.prog (Instr.storeAt 9 t76 t74) W fun _ w =>
      (S W w ∧ C 2 w ∧ True ∧ (∀ v, F4 v W → F4 v w) ∧ (∀ v, F7 v W → F7 v w) ∧ (∀ v, F8 v W → F8 v w) ∧ (∀ v, F9 v W → F9 v w) ∧ (∀ v, F12 v W → F12 v w) ∧ (∀ v, F13 v W → F13 v w) ∧ (∀ v, F14 v W → F14 v w) ∧ (∀ v, F16 v W → F16 v w) ∧ True)
    )
    (fin : ∀ W, S { w with drawn := w.drawn + 1 } W → C 2 W → J  W) :
    DrawP Try.prog 220 (opsOf Try.f104 11) [0, 13] [it0, it13] [] J w := by
  have hall : ∀ _ : Nat → Value,
    (∀ k : Nat, 0 ≤ k → k ≤ 0 → ∀ W, S { w with drawn := w.drawn + 1 } W → C k W → 
      (E W W ∧ C k W ∧ it0 = it0)
    ) ∧
    (∀ k : Nat, 0 ≤ k → k ≤ 0 → ∀ W, S { w with drawn := w.drawn + 1 } W → C k W → 
      (E W W ∧ C k W ∧ it13 = it13)
    ) ∧
    (∀ k : Nat, 0 ≤ k → k ≤ 1 → ∀ W, S { w with drawn := w.drawn + 1 } W → C k W → 
      (E W W ∧ C k W ∧ it0 = it0)
    ) ∧
    (∀ k : Nat, 0 ≤ k → k ≤ 1 → ∀ W, S { w with drawn := w.drawn + 1 } W → C k W → 
      (E W W ∧ C k W ∧ it13 = it13)
    ) ∧
    (∀ t64 : Value, ∀ k : Nat, 0 ≤ k → k ≤ 1 → ∀ W, S { w with drawn := w.drawn + 1 } W → C k W → t64 = it13 → 
      Does Try.prog (binOp .add 3 t64 (Go.Value.int Go.IntKind.i64 1)) W fun t65 w =>
      (E W w ∧ C k w ∧ F4 t65 w)
    ) ∧
    (∀ k : Nat, 0 ≤ k → k ≤ 0 → ∀ W, S { w with drawn := w.drawn + 1 } W → C k W → 
      (E W W ∧ C k W ∧ it0 = it0)
    ) ∧
    (∀ k : Nat, 0 ≤ k → k ≤ 0 → ∀ W, S { w with drawn := w.drawn + 1 } W → C k W → 
      (E W W ∧ C k W ∧ it13 = it13)
    ) ∧
    (∀ t67 : Value, ∀ k : Nat, 0 ≤ k → k ≤ 0 → ∀ W, S { w with drawn := w.drawn + 1 } W → C k W → t67 = it13 → 
      Does Try.prog (binOp .add 3 t67 (Go.Value.int Go.IntKind.i64 1)) W fun t68 w =>
      (E W w ∧ C k w ∧ F7 t68 w)
    ) ∧
    (∀ t66 t68 : Value, ∀ k : Nat, 0 ≤ k → k ≤ 0 → ∀ W, S { w with drawn := w.drawn + 1 } W → C k W → t66 = it0 → F7 t68 W → 
      Does Try.prog (Instr.indexAt 23 t66 t68) W fun t69 w =>
      (E W w ∧ C k w ∧ F8 t69 w)
    ) ∧
    (∀ t69 : Value, ∀ k : Nat, 0 ≤ k → k ≤ 0 → ∀ W, S { w with drawn := w.drawn + 1 } W → C k W → F8 t69 W → 
      Does Try.prog (Instr.loadAt 9 t69) W fun t70 w =>
      (E W w ∧ C k w ∧ F9 t70 w)
    ) ∧
    (∀ k : Nat, 0 ≤ k → k ≤ 1 → ∀ W, S { w with drawn := w.drawn + 1 } W → C k W → 
      (E W W ∧ C k W ∧ it0 = it0)
    ) ∧
    (∀ k : Nat, 0 ≤ k → k ≤ 1 → ∀ W, S { w with drawn := w.drawn + 1 } W → C k W → 
      (E W W ∧ C k W ∧ it13 = it13)
    ) ∧
    (∀ t71 t72 : Value, ∀ k : Nat, 0 ≤ k → k ≤ 1 → ∀ W, S { w with drawn := w.drawn + 1 } W → C k W → t71 = it0 → t72 = it13 → 
      Does Try.prog (Instr.indexAt 23 t71 t72) W fun t73 w =>
      (E W w ∧ C k w ∧ F12 t73 w)
    ) ∧
    (∀ t73 : Value, ∀ k : Nat, 0 ≤ k → k ≤ 0 → ∀ W, S { w with drawn := w.drawn + 1 } W → C k W → F12 t73 W → 
      Does Try.prog (Instr.loadAt 9 t73) W fun t74 w =>
      (E W w ∧ C k w ∧ F13 t74 w)
    ) ∧
    (∀ t61 t62 : Value, ∀ k : Nat, 0 ≤ k → k ≤ 0 → ∀ W, S { w with drawn := w.drawn + 1 } W → C k W → t61 = it0 → t62 = it13 → 
      Does Try.prog (Instr.indexAt 23 t61 t62) W fun t75 w =>
      (E W w ∧ C k w ∧ F14 t75 w)
    ) ∧
    (∀ t75 t70 : Value, ∀ W, S { w with drawn := w.drawn + 1 } W → C 0 W → F14 t75 W → F9 t70 W → 
      Does Try.prog (Instr.storeAt 9 t75 t70) W fun _ w =>
      (S W w ∧ C 1 w ∧ True ∧ (∀ v : Value, v = it0 → v = it0) ∧ (∀ v : Value, v = it13 → v = it13) ∧ (∀ v : Value, v = it0 → v = it0) ∧ (∀ v : Value, v = it13 → v = it13) ∧ (∀ v : Value, F4 v W → F4 v w) ∧ (∀ v : Value, v = it0 → v = it0) ∧ (∀ v : Value, v = it13 → v = it13) ∧ (∀ v : Value, F7 v W → F7 v w) ∧ (∀ v : Value, F8 v W → F8 v w) ∧ (∀ v : Value, F9 v W → F9 v w) ∧ (∀ v : Value, v = it0 → v = it0) ∧ (∀ v : Value, v = it13 → v = it13) ∧ (∀ v : Value, F12 v W → F12 v w) ∧ (∀ v : Value, F13 v W → F13 v w) ∧ (∀ v : Value, F14 v W → F14 v w) ∧ True)
    ) ∧
    (∀ t63 t65 : Value, ∀ k : Nat, 1 ≤ k → k ≤ 1 → ∀ W, S { w with drawn := w.drawn + 1 } W → C k W → t63 = it0 → F4 t65 W → 
      Does Try.prog (Instr.indexAt 23 t63 t65) W fun t76 w =>
      (E W w ∧ C k w ∧ F16 t76 w)
    ) ∧
    (∀ t76 t74 : Value, ∀ W, S { w with drawn := w.drawn + 1 } W → C 1 W → F16 t76 W → F13 t74 W → 
      Does Try.prog (Instr.storeAt 9 t76 t74) W fun _ w =>
      (S W w ∧ C 2 w ∧ True ∧ (∀ v : Value, v = it0 → v = it0) ∧ (∀ v : Value, v = it13 → v = it13) ∧ (∀ v : Value, v = it0 → v = it0) ∧ (∀ v : Value, v = it13 → v = it13) ∧ (∀ v : Value, F4 v W → F4 v w) ∧ (∀ v : Value, v = it0 → v = it0) ∧ (∀ v : Value, v = it13 → v = it13) ∧ (∀ v : Value, F7 v W → F7 v w) ∧ (∀ v : Value, F8 v W → F8 v w) ∧ (∀ v : Value, F9 v W → F9 v w) ∧ (∀ v : Value, v = it0 → v = it0) ∧ (∀ v : Value, v = it13 → v = it13) ∧ (∀ v : Value, F12 v W → F12 v w) ∧ (∀ v : Value, F13 v W → F13 v w) ∧ (∀ v : Value, F14 v W → F14 v w) ∧ (∀ v : Value, True → True) ∧ (∀ v : Value, F16 v W → F16 v w) ∧ True)
    ) ∧ True := fun _ => ⟨
    fun  k hk1 hk2 W hS hC  => ⟨he W, hC, by first | rfl | simp_all⟩,
    fun  k hk1 hk2 W hS hC  => ⟨he W, hC, by first | rfl | simp_all⟩,
    fun  k hk1 hk2 W hS hC  => ⟨he W, hC, by first | rfl | simp_all⟩,
    fun  k hk1 hk2 W hS hC  => ⟨he W, hC, by first | rfl | simp_all⟩,
    fun t64 k hk1 hk2 W hS hC ht64 => (by subst ht64; exact o4  k hk1 hk2 W hS hC ),
    fun  k hk1 hk2 W hS hC  => ⟨he W, hC, by first | rfl | simp_all⟩,
    fun  k hk1 hk2 W hS hC  => ⟨he W, hC, by first | rfl | simp_all⟩,
    fun t67 k hk1 hk2 W hS hC ht67 => (by obtain rfl : k = 0 := (by omega); subst ht67; exact o7  W hS hC ),
    fun t66 t68 k hk1 hk2 W hS hC ht66 ht68 => (by obtain rfl : k = 0 := (by omega); subst ht66; exact o8 t68 W hS hC ht68),
    fun t69 k hk1 hk2 W hS hC ht69 => (by obtain rfl : k = 0 := (by omega); exact o9 t69 W hS hC ht69),
    fun  k hk1 hk2 W hS hC  => ⟨he W, hC, by first | rfl | simp_all⟩,
    fun  k hk1 hk2 W hS hC  => ⟨he W, hC, by first | rfl | simp_all⟩,
    fun t71 t72 k hk1 hk2 W hS hC ht71 ht72 => (by subst ht71; subst ht72; exact o12  k hk1 hk2 W hS hC ),
    fun t73 k hk1 hk2 W hS hC ht73 => (by obtain rfl : k = 0 := (by omega); exact o13 t73 W hS hC ht73),
    fun t61 t62 k hk1 hk2 W hS hC ht61 ht62 => (by obtain rfl : k = 0 := (by omega); subst ht61; subst ht62; exact o14  W hS hC ),
    fun t75 t70 W hS hC ht75 ht70 => (by exact Does.mono (o15 t75 t70 W hS hC ht75 ht70) fun _ _ h => ⟨h.1, h.2.1, h.2.2.1, fun _ h => h, fun _ h => h, fun _ h => h, fun _ h => h, h.2.2.2.1, fun _ h => h, fun _ h => h, h.2.2.2.2.1, h.2.2.2.2.2.1, h.2.2.2.2.2.2.1, fun _ h => h, fun _ h => h, h.2.2.2.2.2.2.2.1, h.2.2.2.2.2.2.2.2.1, h.2.2.2.2.2.2.2.2.2.1, trivial⟩),
    fun t63 t65 k hk1 hk2 W hS hC ht63 ht65 => (by obtain rfl : k = 1 := (by omega); subst ht63; exact o16 t65 W hS hC ht65),
    fun t76 t74 W hS hC ht76 ht74 => (by exact Does.mono (o17 t76 t74 W hS hC ht76 ht74) fun _ _ h => ⟨h.1, h.2.1, h.2.2.1, fun _ h => h, fun _ h => h, fun _ h => h, fun _ h => h, h.2.2.2.1, fun _ h => h, fun _ h => h, h.2.2.2.2.1, h.2.2.2.2.2.1, h.2.2.2.2.2.2.1, fun _ h => h, fun _ h => h, h.2.2.2.2.2.2.2.1, h.2.2.2.2.2.2.2.2.1, h.2.2.2.2.2.2.2.2.2.1, fun _ h => h, h.2.2.2.2.2.2.2.2.2.2.1, trivial⟩),
    trivial⟩
  have hst := lkF_st (S := E) (l := [(0, fun v _ => v = it0), (1, fun v _ => v = it13), (2, fun v _ => v = it0), (3, fun v _ => v = it13), (4, F4), (5, fun v _ => v = it0), (6, fun v _ => v = it13), (7, F7), (8, F8), (9, F9), (10, fun v _ => v = it0), (11, fun v _ => v = it13), (12, F12), (13, F13), (14, F14), (16, F16)]) (fun p hp => by
    simp only [List.mem_cons, List.not_mem_nil, or_false] at hp
    rcases hp with rfl | rfl | rfl | rfl | rfl | rfl | rfl | rfl | rfl | rfl | rfl | rfl | rfl | rfl | rfl | rfl
    · exact FSt.const _
    · exact FSt.const _
    · exact FSt.const _
    · exact FSt.const _
    · exact s4
    · exact FSt.const _
    · exact FSt.const _
    · exact s7
    · exact s8
    · exact s9
    · exact FSt.const _
    · exact FSt.const _
    · exact s12
    · exact s13
    · exact s14
    · exact s16
    )
  have hf : ∀ W, S { w with drawn := w.drawn + 1 } W → C 2 W → J  W := fun  W hS hC  => (by exact fin  W hS hC )
  exact draw_phi (T := [15, 17]) E S C (lkF [(0, fun v _ => v = it0), (1, fun v _ => v = it13), (2, fun v _ => v = it0), (3, fun v _ => v = it13), (4, F4), (5, fun v _ => v = it0), (6, fun v _ => v = it13), (7, F7), (8, F8), (9, F9), (10, fun v _ => v = it0), (11, fun v _ => v = it13), (12, F12), (13, F13), (14, F14), (16, F16)]) (by kernel_rfl) hr ht hES hst h0 (Eq.mp (by kernel_rfl) hall) (Eq.mp (by kernel_rfl) hf)

theorem p104_23 {it0 it17 : Value} {w : World} {J : VF 0} (E S : World → World → Prop) (C : Nat → World → Prop) (F4 F7 F8 F9 F12 F13 F14 F16 : Value → World → Prop) 
    (he : ∀ W, E W W) (hES : ∀ W W1, E W W1 → S W W1) (hr : ∀ W, S W W) (ht : ∀ a b c, S a b → S b c → S a c) (s4 : FSt E F4) (s7 : FSt E F7) (s8 : FSt E F8) (s9 : FSt E F9) (s12 : FSt E F12) (s13 : FSt E F13) (s14 : FSt E F14) (s16 : FSt E F16)
    (h0 : C 0 { w with drawn := w.drawn + 1 })
    (o4 : ∀ k : Nat, 0 ≤ k → k ≤ 1 → ∀ W, S { w with drawn := w.drawn + 1 } W → C k W → 
      Does Try.prog (binOp .sub 3 it17 (Go.Value.int Go.IntKind.i64 1)) W fun t117 w =>
      (E W w ∧ C k w ∧ F4 t117 w)
    )
    (o7 : ∀ W, S { w with drawn := w.drawn + 1 } W → C 0 W → 
      Does Try.prog (binOp .sub 3 it17 (Go.Value.int Go.IntKind.i64 1)) W fun t120 w =>
      (E W w ∧ C 0 w ∧ F7 t120 w)
    )
    (o8 : ∀ t120 : Value, ∀ W, S { w with drawn := w.drawn + 1 } W → C 0 W → F7 t120 W → 
      Does Try.prog (Instr.indexAt 23 it0 t120) W fun t121 w =>
      (E W w ∧ C 0 w ∧ F8 t121 w)
    )
    (o9 : ∀ t121 : Value, ∀ W, S { w with drawn := w.drawn + 1 } W → C 0 W → F8 t121 W → 
      Does Try.prog (Instr.loadAt 9 t121) W fun t122 w =>
      (E W w ∧ C 0 w ∧ F9 t122 w)
    )
    (o12 : ∀ k : Nat, 0 ≤ k → k ≤ 1 → ∀ W, S { w with drawn := w.drawn + 1 } W → C k W → 
      Does Try.prog (Instr.indexAt 23 it0 it17) W fun t125 w =>
      (E W w ∧ C k w ∧ F12 t125 w)
    )
    (o13 : ∀ t125 : Value, ∀ W, S { w with drawn := w.drawn + 1 } W → C 0 W → F12 t125 W → 
      Does Try.prog (Instr.loadAt 9 t125) W fun t126 w =>
      (E W w ∧ C 0 w ∧ F13 t126 w)
    )
    (o14 : ∀ W, S { w with drawn := w.drawn + 1 } W → C 0 W → 
      Does Try.prog (Instr.indexAt 23 it0 it17) W fun t127 w =>
      (E W w ∧ C 0 w ∧ F14 t127 w)
    )
    (o15 : ∀ t127 t122 : Value, ∀ W, S { w with drawn := w.drawn + 1 } W → C 0 W → F14 t127 W → F9 t122 W → 
      Does Try.prog (Instr.storeAt 9 t127 t122) W fun _ w =>
      (S W w ∧ C 1 w ∧ True ∧ (∀ v, F4 v W → F4 v w) ∧ (∀ v, F7 v W → F7 v w) ∧ (∀ v, F8 v W → F8 v w) ∧ (∀ v, F9 v W → F9 v w) ∧ (∀ v, F12 v W → F12 v w) ∧ (∀ v, F13 v W → F13 v w) ∧ (∀ v, F14 v W → F14 v w) ∧ True)
    )
    (o16 : ∀ t117 : Value, ∀ W, S { w with drawn := w.drawn + 1 } W → C 1 W → F4 t117 W → 
      Does Try.prog (Instr.indexAt 23 it0 t117) W fun t128 w =>
      (E W w ∧ C 1 w ∧ F16 t128 w)
    )
    (o17 : ∀ t128 t126 : Value, ∀ W, S { w with drawn := w.drawn + 1 } W → C 1 W → F16 t128 W → F13 t126 W → 
      Does Try.prog (Instr.storeAt 9 t128 t126) W fun _ w =>
      (S W w ∧ C 2 w ∧ True ∧ (∀ v, F4 v W → F4 v w) ∧ (∀ v, F7 v W → F7 v w) ∧ (∀ v, F8 v W → F8 v w) ∧ (∀ v, F9 v W → F9 v w) ∧ (∀ v, F12 v W → F12 v w) ∧ (∀ v, F13 v W → F13 v w) ∧ (∀ v, F14 v W → F14 v w) ∧ (∀ v, F16 v W → F16 v w) ∧ True)
    )
    (fin : ∀ W, S { w with drawn := w.drawn + 1 } W → C 2 W → J  W) :
    DrawP Try.prog 220 (opsOf Try.f104 23) [0, 17] [it0, it17] [] J w := by
  have hall : ∀ _ : Nat → Value,
    (∀ k : Nat, 0 ≤ k → k ≤ 0 → ∀ W, S { w with drawn := w.drawn + 1 } W → C k W → 
      (E W W ∧ C k W ∧ it0 = it0)
    ) ∧
    (∀ k : Nat, 0 ≤ k → k ≤ 0 → ∀ W, S { w with drawn := w.drawn + 1 } W → C k W → 
      (E W W ∧ C k W ∧ it17 = it17)
    ) ∧
    (∀ k : Nat, 0 ≤ k → k ≤ 1 → ∀ W, S { w with drawn := w.drawn + 1 } W → C k W → 
      (E W W ∧ C k W ∧ it0 = it0)
    ) ∧
    (∀ k : Nat, 0 ≤ k → k ≤ 1 → ∀ W, S { w with drawn := w.drawn + 1 } W → C k W → 
      (E W W ∧ C k W ∧ it17 = it17)
    ) ∧
    (∀ t116 : Value, ∀ k : Nat, 0 ≤ k → k ≤ 1 → ∀ W, S { w with drawn := w.drawn + 1 } W → C k W → t116 = it17 → 
      Does Try.prog (binOp .sub 3 t116 (Go.Value.int Go.IntKind.i64 1)) W fun t117 w =>
      (E W w ∧ C k w ∧ F4 t117 w)
    ) ∧
    (∀ k : Nat, 0 ≤ k → k ≤ 0 → ∀ W, S { w with drawn := w.drawn + 1 } W → C k W → 
      (E W W ∧ C k W ∧ it0 = it0)
    ) ∧
    (∀ k : Nat, 0 ≤ k → k ≤ 0 → ∀ W, S { w with drawn := w.drawn + 1 } W → C k W → 
      (E W W ∧ C k W ∧ it17 = it17)
    ) ∧
    (∀ t119 : Value, ∀ k : Nat, 0 ≤ k → k ≤ 0 → ∀ W, S { w with drawn := w.drawn + 1 } W → C k W → t119 = it17 → 
      Does Try.prog (binOp .sub 3 t119 (Go.Value.int Go.IntKind.i64 1)) W fun t120 w =>
      (E W w ∧ C k w ∧ F7 t120 w)
    ) ∧
    (∀ t118 t120 : Value, ∀ k : Nat, 0 ≤ k → k ≤ 0 → ∀ W, S { w with drawn := w.drawn + 1 } W → C k W → t118 = it0 → F7 t120 W → 
      Does Try.prog (Instr.indexAt 23 t118 t120) W fun t121 w =>
      (E W w ∧ C k w ∧ F8 t121 w)
    ) ∧
    (∀ t121 : Value, ∀ k : Nat, 0 ≤ k → k ≤ 0 → ∀ W, S { w with drawn := w.drawn + 1 } W → C k W → F8 t121 W → 
      Does Try.prog (Instr.loadAt 9 t121) W fun t122 w =>
      (E W w ∧ C k w ∧ F9 t122 w)
    ) ∧
    (∀ k : Nat, 0 ≤ k → k ≤ 1 → ∀ W, S { w with drawn := w.drawn + 1 } W → C k W → 
      (E W W ∧ C k W ∧ it0 = it0)
    ) ∧
    (∀ k : Nat, 0 ≤ k → k ≤ 1 → ∀ W, S { w with drawn := w.drawn + 1 } W → C k W → 
      (E W W ∧ C k W ∧ it17 = it17)
    ) ∧
    (∀ t123 t124 : Value, ∀ k : Nat, 0 ≤ k → k ≤ 1 → ∀ W, S { w with drawn := w.drawn + 1 } W → C k W → t123 = it0 → t124 = it17 → 
      Does Try.prog (Instr.indexAt 23 t123 t124) W fun t125 w =>
      (E W w ∧ C k w ∧ F12 t125 w)
    ) ∧
    (∀ t125 : Value, ∀ k : Nat, 0 ≤ k → k ≤ 0 → ∀ W, S { w with drawn := w.drawn + 1 } W → C k W → F12 t125 W → 
      Does Try.prog (Instr.loadAt 9 t125) W fun t126 w =>
      (E W w ∧ C k w ∧ F13 t126 w)
    ) ∧
    (∀ t113 t114 : Value, ∀ k : Nat, 0 ≤ k → k ≤ 0 → ∀ W, S { w with drawn := w.drawn + 1 } W → C k W → t113 = it0 → t114 = it17 → 
      Does Try.prog (Instr.indexAt 23 t113 t114) W fun t127 w =>
      (E W w ∧ C k w ∧ F14 t127 w)
    ) ∧
    (∀ t127 t122 : Value, ∀ W, S { w with drawn := w.drawn + 1 } W → C 0 W → F14 t127 W → F9 t122 W → 
      Does Try.prog (Instr.storeAt 9 t127 t122) W fun _ w =>
      (S W w ∧ C 1 w ∧ True ∧ (∀ v : Value, v = it0 → v = it0) ∧ (∀ v : Value, v = it17 → v = it17) ∧ (∀ v : Value, v = it0 → v = it0) ∧ (∀ v : Value, v = it17 → v = it17) ∧ (∀ v : Value, F4 v W → F4 v w) ∧ (∀ v : Value, v = it0 → v = it0) ∧ (∀ v : Value, v = it17 → v = it17) ∧ (∀ v : Value, F7 v W → F7 v w) ∧ (∀ v : Value, F8 v W → F8 v w) ∧ (∀ v : Value, F9 v W → F9 v w) ∧ (∀ v : Value, v = it0 → v = it0) ∧ (∀ v : Value, v = it17 → v = it17) ∧ (∀ v : Value, F12 v W → F12 v w) ∧ (∀ v : Value, F13 v W → F13 v w) ∧ (∀ v : Value, F14 v W → F14 v w) ∧ True)
    ) ∧
    (∀ t115 t117 : Value, ∀ k : Nat, 1 ≤ k → k ≤ 1 → ∀ W, S { w with drawn := w.drawn + 1 } W → C k W → t115 = it0 → F4 t117 W → 
      Does Try.prog (Instr.indexAt 23 t115 t117) W fun t128 w =>
      (E W w ∧ C k w ∧ F16 t128 w)
    ) ∧
    (∀ t128 t126 : Value, ∀ W, S { w with drawn := w.drawn + 1 } W → C 1 W → F16 t128 W → F13 t126 W → 
      Does Try.prog (Instr.storeAt 9 t128 t126) W fun _ w =>
      (S W w ∧ C 2 w ∧ True ∧ (∀ v : Value, v = it0 → v = it0) ∧ (∀ v : Value, v = it17 → v = it17) ∧ (∀ v : Value, v = it0 → v = it0) ∧ (∀ v : Value, v = it17 → v = it17) ∧ (∀ v : Value, F4 v W → F4 v w) ∧ (∀ v : Value, v = it0 → v = it0) ∧ (∀ v : Value, v = it17 → v = it17) ∧ (∀ v : Value, F7 v W → F7 v w) ∧ (∀ v : Value, F8 v W → F8 v w) ∧ (∀ v : Value, F9 v W → F9 v w) ∧ (∀ v : Value, v = it0 → v = it0) ∧ (∀ v : Value, v = it17 → v = it17) ∧ (∀ v : Value, F12 v W → F12 v w) ∧ (∀ v : Value, F13 v W → F13 v w) ∧ (∀ v : Value, F14 v W → F14 v w) ∧ (∀ v : Value, True → True) ∧ (∀ v : Value, F16 v W → F16 v w) ∧ True)
    ) ∧ True := fun _ => ⟨
    fun  k hk1 hk2 W hS hC  => ⟨he W, hC, by first | rfl | simp_all⟩,
    fun  k hk1 hk2 W hS hC  => ⟨he W, hC, by first | rfl | simp_all⟩,
    fun  k hk1 hk2 W hS hC  => ⟨he W, hC, by first | rfl | simp_all⟩,
    fun  k hk1 hk2 W hS hC  => ⟨he W, hC, by first | rfl | simp_all⟩,
    fun t116 k hk1 hk2 W hS hC ht116 => (by subst ht116; exact o4  k hk1 hk2 W hS hC ),
    fun  k hk1 hk2 W hS hC  => ⟨he W, hC, by first | rfl | simp_all⟩,
    fun  k hk1 hk2 W hS hC  => ⟨he W, hC, by first | rfl | simp_all⟩,
    fun t119 k hk1 hk2 W hS hC ht119 => (by obtain rfl : k = 0 := (by omega); subst ht119; exact o7  W hS hC ),
    fun t118 t120 k hk1 hk2 W hS hC ht118 ht120 => (by obtain rfl : k = 0 := (by omega); subst ht118; exact o8 t120 W hS hC ht120),
    fun t121 k hk1 hk2 W hS hC ht121 => (by obtain rfl : k = 0 := (by omega); exact o9 t121 W hS hC ht121),
    fun  k hk1 hk2 W hS hC  => ⟨he W, hC, by first | rfl | simp_all⟩,
    fun  k hk1 hk2 W hS hC  => ⟨he W, hC, by first | rfl | simp_all⟩,
    fun t123 t124 k hk1 hk2 W hS hC ht123 ht124 => (by subst ht123; subst ht124; exact o12  k hk1 hk2 W hS hC ),
    fun t125 k hk1 hk2 W hS hC ht125 => (by obtain rfl : k = 0 := (by omega); exact o13 t125 W hS hC ht125),
    fun t113 t114 k hk1 hk2 W hS hC ht113 ht114 => (by obtain rfl : k = 0 := (by omega); subst ht113; subst ht114; exact o14  W hS hC ),
    fun t127 t122 W hS hC ht127 ht122 => (by exact Does.mono (o15 t127 t122 W hS hC ht127 ht122) fun _ _ h => ⟨h.1, h.2.1, h.2.2.1, fun _ h => h, fun _ h => h, fun _ h => h, fun _ h => h, h.2.2.2.1, fun _ h => h, fun _ h => h, h.2.2.2.2.1, h.2.2.2.2.2.1, h.2.2.2.2.2.2.1, fun _ h => h, fun _ h => h, h.2.2.2.2.2.2.2.1, h.2.2.2.2.2.2.2.2.1, h.2.2.2.2.2.2.2.2.2.1, trivial⟩),
    fun t115 t117 k hk1 hk2 W hS hC ht115 ht117 => (by obtain rfl : k = 1 := (by omega); subst ht115; exact o16 t117 W hS hC ht117),
    fun t128 t126 W hS hC ht128 ht126 => (by exact Does.mono (o17 t128 t126 W hS hC ht128 ht126) fun _ _ h => ⟨h.1, h.2.1, h.2.2.1, fun _ h => h, fun _ h => h, fun _ h => h, fun _ h => h, h.2.2.2.1, fun _ h => h, fun _ h => h, h.2.2.2.2.1, h.2.2.2.2.2.1, h.2.2.2.2.2.2.1, fun _ h => h, fun _ h => h, h.2.2.2.2.2.2.2.1, h.2.2.2.2.2.2.2.2.1, h.2.2.2.2.2.2.2.2.2.1, fun _ h => h, h.2.2.2.2.2.2.2.2.2.2.1, trivial⟩),
    trivial⟩
  have hst := lkF_st (S := E) (l := [(0, fun v _ => v = it0), (1, fun v _ => v = it17), (2, fun v _ => v = it0), (3, fun v _ => v = it17), (4, F4), (5, fun v _ => v = it0), (6, fun v _ => v = it17), (7, F7), (8, F8), (9, F9), (10, fun v _ => v = it0), (11, fun v _ => v = it17), (12, F12), (13, F13), (14, F14), (16, F16)]) (fun p hp => by
    simp only [List.mem_cons, List.not_mem_nil, or_false] at hp
    rcases hp with rfl | rfl | rfl | rfl | rfl | rfl | rfl | rfl | rfl | rfl | rfl | rfl | rfl | rfl | rfl | rfl
    · exact FSt.const _
    · exact FSt.const _
    · exact FSt.const _
    · exact FSt.const _
    · exact s4
    · exact FSt.const _
    · exact FSt.const _
    · exact s7
    · exact s8
    · exact s9
    · exact FSt.const _
    · exact FSt.const _
    · exact s12
    · exact s13
    · exact s14
    · exact s16
    )
  have hf : ∀ W, S { w with drawn := w.drawn + 1 } W → C 2 W → J  W := fun  W hS hC  => (by exact fin  W hS hC )
  exact draw_phi (T := [15, 17]) E S C (lkF [(0, fun v _ => v = it0), (1, fun v _ => v = it17), (2, fun v _ => v = it0), (3, fun v _ => v = it17), (4, F4), (5, fun v _ => v = it0), (6, fun v _ => v = it17), (7, F7), (8, F8), (9, F9), (10, fun v _ => v = it0), (11, fun v _ => v = it17), (12, F12), (13, F13), (14, F14), (16, F16)]) (by kernel_rfl) hr ht hES hst h0 (Eq.mp (by kernel_rfl) hall) (Eq.mp (by kernel_rfl) hf)

theorem p120_3 {idata0 ia1 ib2 ii10 : Value} {w : World} {J : VF 0} (E S : World → World → Prop) (C : Nat → World → Prop) (F3 F7 F11 F12 F13 F17 F18 F19 F20 F22 : Value → World → Prop) 
    (he : ∀ W, E W W) (hES : ∀ W W1, E W W1 → S W W1) (hr : ∀ W, S W W) (ht : ∀ a b c, S a b → S b c → S a c) (s3 : FSt E F3) (s7 : FSt E F7) (s11 : FSt E F11) (s12 : FSt E F12) (s13 : FSt E F13) (s17 : FSt E F17) (s18 : FSt E F18) (s19 : FSt E F19) (s20 : FSt E F20) (s22 : FSt E F22)
    (h0 : C 0 { w with drawn := w.drawn + 1 })
    (o3 : ∀ W, S { w with drawn := w.drawn + 1 } W → C 0 W → 
      Does Try.prog (binOp .add 3 ia1 ii10) W fun t19 w =>
      (E W w ∧ C 0 w ∧ F3 t19 w)
    )
    (o7 : ∀ k : Nat, 0 ≤ k → k ≤ 1 → ∀ W, S { w with drawn := w.drawn + 1 } W → C k W → 
      Does Try.prog (binOp .add 3 ib2 ii10) W fun t23 w =>
      (E W w ∧ C k w ∧ F7 t23 w)
    )
    (o11 : ∀ W, S { w with drawn := w.drawn + 1 } W → C 0 W → 
      Does Try.prog (binOp .add 3 ib2 ii10) W fun t27 w =>
      (E W w ∧ C 0 w ∧ F11 t27 w)
    )
    (o12 : ∀ t27 : Value, ∀ W, S { w with drawn := w.drawn + 1 } W → C 0 W → F11 t27 W → 
      Does Try.prog (Instr.indexAt 23 idata0 t27) W fun t28 w =>
      (E W w ∧ C 0 w ∧ F12 t28 w)
    )
    (o13 : ∀ t28 : Value, ∀ W, S { w with drawn := w.drawn + 1 } W → C 0 W → F12 t28 W → 
      Does Try.prog (Instr.loadAt 9 t28) W fun t29 w =>
      (E W w ∧ C 0 w ∧ F13 t29 w)
    )
    (o17 : ∀ k : Nat, 0 ≤ k → k ≤ 1 → ∀ W, S { w with drawn := w.drawn + 1 } W → C k W → 
      Does Try.prog (binOp .add 3 ia1 ii10) W fun t33 w =>
      (E W w ∧ C k w ∧ F17 t33 w)
    )
    (o18 : ∀ t33 : Value, ∀ k : Nat, 0 ≤ k → k ≤ 1 → ∀ W, S { w with drawn := w.drawn + 1 } W → C k W → F17 t33 W → 
      Does Try.prog (Instr.indexAt 23 idata0 t33) W fun t34 w =>
      (E W w ∧ C k w ∧ F18 t34 w)
    )
    (o19 : ∀ t34 : Value, ∀ W, S { w with drawn := w.drawn + 1 } W → C 0 W → F18 t34 W → 
      Does Try.prog (Instr.loadAt 9 t34) W fun t35 w =>
      (E W w ∧ C 0 w ∧ F19 t35 w)
    )
    (o20 : ∀ t19 : Value, ∀ W, S { w with drawn := w.drawn + 1 } W → C 0 W → F3 t19 W → 
      Does Try.prog (Instr.indexAt 23 idata0 t19) W fun t36 w =>
      (E W w ∧ C 0 w ∧ F20 t36 w)
    )
    (o21 : ∀ t36 t29 : Value, ∀ W, S { w with drawn := w.drawn + 1 } W → C 0 W → F20 t36 W → F13 t29 W → 
      Does Try.prog (Instr.storeAt 9 t36 t29) W fun _ w =>
      (S W w ∧ C 1 w ∧ True ∧ (∀ v, F3 v W → F3 v w) ∧ (∀ v, F7 v W → F7 v w) ∧ (∀ v, F11 v W → F11 v w) ∧ (∀ v, F12 v W → F12 v w) ∧ (∀ v, F13 v W → F13 v w) ∧ (∀ v, F17 v W → F17 v w) ∧ (∀ v, F18 v W → F18 v w) ∧ (∀ v, F19 v W → F19 v w) ∧ (∀ v, F20 v W → F20 v w) ∧ True)
    )
    (o22 : ∀ t23 : Value, ∀ W, S { w with drawn := w.drawn + 1 } W → C 1 W → F7 t23 W → 
      Does Try.prog (Instr.indexAt 23 idata0 t23) W fun t37 w =>
      (E W w ∧ C 1 w ∧ F22 t37 w)
    )
    (o23 : ∀ t37 t35 : Value, ∀ W, S { w with drawn := w.drawn + 1 } W → C 1 W → F22 t37 W → F19 t35 W → 
      Does Try.prog (Instr.storeAt 9 t37 t35) W fun _ w =>
      (S W w ∧ C 2 w ∧ True ∧ (∀ v, F3 v W → F3 v w) ∧ (∀ v, F7 v W → F7 v w) ∧ (∀ v, F11 v W → F11 v w) ∧ (∀ v, F12 v W → F12 v w) ∧ (∀ v, F13 v W → F13 v w) ∧ (∀ v, F17 v W → F17 v w) ∧ (∀ v, F18 v W → F18 v w) ∧ (∀ v, F19 v W → F19 v w) ∧ (∀ v, F20 v W → F20 v w) ∧ (∀ v, F22 v W → F22 v w) ∧ True)
    )
    (fin : ∀ W, S { w with drawn := w.drawn + 1 } W → C 2 W → J  W) :
    DrawP Try.prog 38 (opsOf Try.f120 3) [0, 1, 2, 10] [idata0, ia1, ib2, ii10] [] J w := by
  have hall : ∀ _ : Nat → Value,
    (∀ k : Nat, 0 ≤ k → k ≤ 0 → ∀ W, S { w with drawn := w.drawn + 1 } W → C k W → 
      (E W W ∧ C k W ∧ idata0 = idata0)
    ) ∧
    (∀ k : Nat, 0 ≤ k → k ≤ 0 → ∀ W, S { w with drawn := w.drawn + 1 } W → C k W → 
      (E W W ∧ C k W ∧ ia1 = ia1)
    ) ∧
    (∀ k : Nat, 0 ≤ k → k ≤ 0 → ∀ W, S { w with drawn := w.drawn + 1 } W → C k W → 
      (E W W ∧ C k W ∧ ii10 = ii10)
    ) ∧
    (∀ t17 t18 : Value, ∀ k : Nat, 0 ≤ k → k ≤ 0 → ∀ W, S { w with drawn := w.drawn + 1 } W → C k W → t17 = ia1 → t18 = ii10 → 
      Does Try.prog (binOp .add 3 t17 t18) W fun t19 w =>
      (E W w ∧ C k w ∧ F3 t19 w)
    ) ∧
    (∀ k : Nat, 0 ≤ k → k ≤ 1 → ∀ W, S { w with drawn := w.drawn + 1 } W → C k W → 
      (E W W ∧ C k W ∧ idata0 = idata0)
    ) ∧
    (∀ k : Nat, 0 ≤ k → k ≤ 1 → ∀ W, S { w with drawn := w.drawn + 1 } W → C k W → 
      (E W W ∧ C k W ∧ ib2 = ib2)
    ) ∧
    (∀ k : Nat, 0 ≤ k → k ≤ 1 → ∀ W, S { w with drawn := w.drawn + 1 } W → C k W → 
      (E W W ∧ C k W ∧ ii10 = ii10)
    ) ∧
    (∀ t21 t22 : Value, ∀ k : Nat, 0 ≤ k → k ≤ 1 → ∀ W, S { w with drawn := w.drawn + 1 } W → C k W → t21 = ib2 → t22 = ii10 → 
      Does Try.prog (binOp .add 3 t21 t22) W fun t23 w =>
      (E W w ∧ C k w ∧ F7 t23 w)
    ) ∧
    (∀ k : Nat, 0 ≤ k → k ≤ 0 → ∀ W, S { w with drawn := w.drawn + 1 } W → C k W → 
      (E W W ∧ C k W ∧ idata0 = idata0)
    ) ∧
    (∀ k : Nat, 0 ≤ k → k ≤ 0 → ∀ W, S { w with drawn := w.drawn + 1 } W → C k W → 
      (E W W ∧ C k W ∧ ib2 = ib2)
    ) ∧
    (∀ k : Nat, 0 ≤ k → k ≤ 0 → ∀ W, S { w with drawn := w.drawn + 1 } W → C k W → 
      (E W W ∧ C k W ∧ ii10 = ii10)
    ) ∧
    (∀ t25 t26 : Value, ∀ k : Nat, 0 ≤ k → k ≤ 0 → ∀ W, S { w with drawn := w.drawn + 1 } W → C k W → t25 = ib2 → t26 = ii10 → 
      Does Try.prog (binOp .add 3 t25 t26) W fun t27 w =>
      (E W w ∧ C k w ∧ F11 t27 w)
    ) ∧
    (∀ t24 t27 : Value, ∀ k : Nat, 0 ≤ k → k ≤ 0 → ∀ W, S { w with drawn := w.drawn + 1 } W → C k W → t24 = idata0 → F11 t27 W → 
      Does Try.prog (Instr.indexAt 23 t24 t27) W fun t28 w =>
      (E W w ∧ C k w ∧ F12 t28 w)
    ) ∧
    (∀ t28 : Value, ∀ k : Nat, 0 ≤ k → k ≤ 0 → ∀ W, S { w with drawn := w.drawn + 1 } W → C k W → F12 t28 W → 
      Does Try.prog (Instr.loadAt 9 t28) W fun t29 w =>
      (E W w ∧ C k w ∧ F13 t29 w)
    ) ∧
    (∀ k : Nat, 0 ≤ k → k ≤ 1 → ∀ W, S { w with drawn := w.drawn + 1 } W → C k W → 
      (E W W ∧ C k W ∧ idata0 = idata0)
    ) ∧
    (∀ k : Nat, 0 ≤ k → k ≤ 1 → ∀ W, S { w with drawn := w.drawn + 1 } W → C k W → 
      (E W W ∧ C k W ∧ ia1 = ia1)
    ) ∧
    (∀ k : Nat, 0 ≤ k → k ≤ 1 → ∀ W, S { w with drawn := w.drawn + 1 } W → C k W → 
      (E W W ∧ C k W ∧ ii10 = ii10)
    ) ∧
    (∀ t31 t32 : Value, ∀ k : Nat, 0 ≤ k → k ≤ 1 → ∀ W, S { w with drawn := w.drawn + 1 } W → C k W → t31 = ia1 → t32 = ii10 → 
      Does Try.prog (binOp .add 3 t31 t32) W fun t33 w =>
      (E W w ∧ C k w ∧ F17 t33 w)
    ) ∧
    (∀ t30 t33 : Value, ∀ k : Nat, 0 ≤ k → k ≤ 1 → ∀ W, S { w with drawn := w.drawn + 1 } W → C k W → t30 = idata0 → F17 t33 W → 
      Does Try.prog (Instr.indexAt 23 t30 t33) W fun t34 w =>
      (E W w ∧ C k w ∧ F18 t34 w)
    ) ∧
    (∀ t34 : Value, ∀ k : Nat, 0 ≤ k → k ≤ 0 → ∀ W, S { w with drawn := w.drawn + 1 } W → C k W → F18 t34 W → 
      Does Try.prog (Instr.loadAt 9 t34) W fun t35 w =>
      (E W w ∧ C k w ∧ F19 t35 w)
    ) ∧
    (∀ t16 t19 : Value, ∀ k : Nat, 0 ≤ k → k ≤ 0 → ∀ W, S { w with drawn := w.drawn + 1 } W → C k W → t16 = idata0 → F3 t19 W → 
      Does Try.prog (Instr.indexAt 23 t16 t19) W fun t36 w =>
      (E W w ∧ C k w ∧ F20 t36 w)
    ) ∧
    (∀ t36 t29 : Value, ∀ W, S { w with drawn := w.drawn + 1 } W → C 0 W → F20 t36 W → F13 t29 W → 
      Does Try.prog (Instr.storeAt 9 t36 t29) W fun _ w =>
      (S W w ∧ C 1 w ∧ True ∧ (∀ v : Value, v = idata0 → v = idata0) ∧ (∀ v : Value, v = ia1 → v = ia1) ∧ (∀ v : Value, v = ii10 → v = ii10) ∧ (∀ v : Value, F3 v W → F3 v w) ∧ (∀ v : Value, v = idata0 → v = idata0) ∧ (∀ v : Value, v = ib2 → v = ib2) ∧ (∀ v : Value, v = ii10 → v = ii10) ∧ (∀ v : Value, F7 v W → F7 v w) ∧ (∀ v : Value, v = idata0 → v = idata0) ∧ (∀ v : Value, v = ib2 → v = ib2) ∧ (∀ v : Value, v = ii10 → v = ii10) ∧ (∀ v : Value, F11 v W → F11 v w) ∧ (∀ v : Value, F12 v W → F12 v w) ∧ (∀ v : Value, F13 v W → F13 v w) ∧ (∀ v : Value, v = idata0 → v = idata0) ∧ (∀ v : Value, v = ia1 → v = ia1) ∧ (∀ v : Value, v = ii10 → v = ii10) ∧ (∀ v : Value, F17 v W → F17 v w) ∧ (∀ v : Value, F18 v W → F18 v w) ∧ (∀ v : Value, F19 v W → F19 v w) ∧ (∀ v : Value, F20 v W → F20 v w) ∧ True)
    ) ∧
    (∀ t20 t23 : Value, ∀ k : Nat, 1 ≤ k → k ≤ 1 → ∀ W, S { w with drawn := w.drawn + 1 } W → C k W → t20 = idata0 → F7 t23 W → 
      Does Try.prog (Instr.indexAt 23 t20 t23) W fun t37 w =>
      (E W w ∧ C k w ∧ F22 t37 w)
    ) ∧
    (∀ t37 t35 : Value, ∀ W, S { w with drawn := w.drawn + 1 } W → C 1 W → F22 t37 W → F19 t35 W → 
      Does Try.prog (Instr.storeAt 9 t37 t35) W fun _ w =>
      (S W w ∧ C 2 w ∧ True ∧ (∀ v : Value, v = idata0 → v = idata0) ∧ (∀ v : Value, v = ia1 → v = ia1) ∧ (∀ v : Value, v = ii10 → v = ii10) ∧ (∀ v : Value, F3 v W → F3 v w) ∧ (∀ v : Value, v = idata0 → v = idata0) ∧ (∀ v : Value, v = ib2 → v = ib2) ∧ (∀ v : Value, v = ii10 → v = ii10) ∧ (∀ v : Value, F7 v W → F7 v w) ∧ (∀ v : Value, v = idata0 → v = idata0) ∧ (∀ v : Value, v = ib2 → v = ib2) ∧ (∀ v : Value, v = ii10 → v = ii10) ∧ (∀ v : Value, F11 v W → F11 v w) ∧ (∀ v : Value, F12 v W → F12 v w) ∧ (∀ v : Value, F13 v W → F13 v w) ∧ (∀ v : Value, v = idata0 → v = idata0) ∧ (∀ v : Value, v = ia1 → v = ia1) ∧ (∀ v : Value, v = ii10 → v = ii10) ∧ (∀ v : Value, F17 v W → F17 v w) ∧ (∀ v : Value, F18 v W → F18 v w) ∧ (∀ v : Value, F19 v W → F19 v w) ∧ (∀ v : Value, F20 v W → F20 v w) ∧ (∀ v : Value, True → True) ∧ (∀ v : Value, F22 v W → F22 v w) ∧ True)
    ) ∧ True := fun _ => ⟨
    fun  k hk1 hk2 W hS hC  => ⟨he W, hC, by first | rfl | simp_all⟩,
    fun  k hk1 hk2 W hS hC  => ⟨he W, hC, by first | rfl | simp_all⟩,
    fun  k hk1 hk2 W hS hC  => ⟨he W, hC, by first | rfl | simp_all⟩,
    fun t17 t18 k hk1 hk2 W hS hC ht17 ht18 => (by obtain rfl : k = 0 := (by omega); subst ht17; subst ht18; exact o3  W hS hC ),
    fun  k hk1 hk2 W hS hC  => ⟨he W, hC, by first | rfl | simp_all⟩,
    fun  k hk1 hk2 W hS hC  => ⟨he W, hC, by first | rfl | simp_all⟩,
    fun  k hk1 hk2 W hS hC  => ⟨he W, hC, by first | rfl | simp_all⟩,
    fun t21 t22 k hk1 hk2 W hS hC ht21 ht22 => (by subst ht21; subst ht22; exact o7  k hk1 hk2 W hS hC ),
    fun  k hk1 hk2 W hS hC  => ⟨he W, hC, by first | rfl | simp_all⟩,
    fun  k hk1 hk2 W hS hC  => ⟨he W, hC, by first | rfl | simp_all⟩,
    fun  k hk1 hk2 W hS hC  => ⟨he W, hC, by first | rfl | simp_all⟩,
    fun t25 t26 k hk1 hk2 W hS hC ht25 ht26 => (by obtain rfl : k = 0 := (by omega); subst ht25; subst ht26; exact o11  W hS hC ),
    fun t24 t27 k hk1 hk2 W hS hC ht24 ht27 => (by obtain rfl : k = 0 := (by omega); subst ht24; exact o12 t27 W hS hC ht27),
    fun t28 k hk1 hk2 W hS hC ht28 => (by obtain rfl : k = 0 := (by omega); exact o13 t28 W hS hC ht28),
    fun  k hk1 hk2 W hS hC  => ⟨he W, hC, by first | rfl | simp_all⟩,
    fun  k hk1 hk2 W hS hC  => ⟨he W, hC, by first | rfl | simp_all⟩,
    fun  k hk1 hk2 W hS hC  => ⟨he W, hC, by first | rfl | simp_all⟩,
    fun t31 t32 k hk1 hk2 W hS hC ht31 ht32 => (by subst ht31; subst ht32; exact o17  k hk1 hk2 W hS hC ),
    fun t30 t33 k hk1 hk2 W hS hC ht30 ht33 => (by subst ht30; exact o18 t33 k hk1 hk2 W hS hC ht33),
    fun t34 k hk1 hk2 W hS hC ht34 => (by obtain rfl : k = 0 := (by omega); exact o19 t34 W hS hC ht34),
    fun t16 t19 k hk1 hk2 W hS hC ht16 ht19 => (by obtain rfl : k = 0 := (by omega); subst ht16; exact o20 t19 W hS hC ht19),
    fun t36 t29 W hS hC ht36 ht29 => (by exact Does.mono (o21 t36 t29 W hS hC ht36 ht29) fun _ _ h => ⟨h.1, h.2.1, h.2.2.1, fun _ h => h, fun _ h => h, fun _ h => h, h.2.2.2.1, fun _ h => h, fun _ h => h, fun _ h => h, h.2.2.2.2.1, fun _ h => h, fun _ h => h, fun _ h => h, h.2.2.2.2.2.1, h.2.2.2.2.2.2.1, h.2.2.2.2.2.2.2.1, fun _ h => h, fun _ h => h, fun _ h => h, h.2.2.2.2.2.2.2.2.1, h.2.2.2.2.2.2.2.2.2.1, h.2.2.2.2.2.2.2.2.2.2.1, h.2.2.2.2.2.2.2.2.2.2.2.1, trivial⟩),
    fun t20 t23 k hk1 hk2 W hS hC ht20 ht23 => (by obtain rfl : k = 1 := (by omega); subst ht20; exact o22 t23 W hS hC ht23),
    fun t37 t35 W hS hC ht37 ht35 => (by exact Does.mono (o23 t37 t35 W hS hC ht37 ht35) fun _ _ h => ⟨h.1, h.2.1, h.2.2.1, fun _ h => h, fun _ h => h, fun _ h => h, h.2.2.2.1, fun _ h => h, fun _ h => h, fun _ h => h, h.2.2.2.2.1, fun _ h => h, fun _ h => h, fun _ h => h, h.2.2.2.2.2.1, h.2.2.2.2.2.2.1, h.2.2.2.2.2.2.2.1, fun _ h => h, fun _ h => h, fun _ h => h, h.2.2.2.2.2.2.2.2.1, h.2.2.2.2.2.2.2.2.2.1, h.2.2.2.2.2.2.2.2.2.2.1, h.2.2.2.2.2.2.2.2.2.2.2.1, fun _ h => h, h.2.2.2.2.2.2.2.2.2.2.2.2.1, trivial⟩),
    trivial⟩
  have hst := lkF_st (S := E) (l := [(0, fun v _ => v = idata0), (1, fun v _ => v = ia1), (2, fun v _ => v = ii10), (3, F3), (4, fun v _ => v = idata0), (5, fun v _ => v = ib2), (6, fun v _ => v = ii10), (7, F7), (8, fun v _ => v = idata0), (9, fun v _ => v = ib2), (10, fun v _ => v = ii10), (11, F11), (12, F12), (13, F13), (14, fun v _ => v = idata0), (15, fun v _ => v = ia1), (16, fun v _ => v = ii10), (17, F17), (18, F18), (19, F19), (20, F20), (22, F22)]) (fun p hp => by
    simp only [List.mem_cons, List.not_mem_nil, or_false] at hp
    rcases hp with rfl | rfl | rfl | rfl | rfl | rfl | rfl | rfl | rfl | rfl | rfl | rfl | rfl | rfl | rfl | rfl | rfl | rfl | rfl | rfl | rfl | rfl
    · exact FSt.const _
    · exact FSt.const _
    · exact FSt.const _
    · exact s3
    · exact FSt.const _
    · exact FSt.const _
    · exact FSt.const _
    · exact s7
    · exact FSt.const _
    · exact FSt.const _
    · exact FSt.const _
    · exact s11
    · exact s12
    · exact s13
    · exact FSt.const _
    · exact FSt.const _
    · exact FSt.const _
    · exact s17
    · exact s18
    · exact s19
    · exact s20
    · exact s22
    )
  have hf : ∀ W, S { w with drawn := w.drawn + 1 } W → C 2 W → J  W := fun  W hS hC  => (by exact fin  W hS hC )
  exact draw_phi (T := [21, 23]) E S C (lkF [(0, fun v _ => v = idata0), (1, fun v _ => v = ia1), (2, fun v _ => v = ii10), (3, F3), (4, fun v _ => v = idata0), (5, fun v _ => v = ib2), (6, fun v _ => v = ii10), (7, F7), (8, fun v _ => v = idata0), (9, fun v _ => v = ib2), (10, fun v _ => v = ii10), (11, F11), (12, F12), (13, F13), (14, fun v _ => v = idata0), (15, fun v _ => v = ia1), (16, fun v _ => v = ii10), (17, F17), (18, F18), (19, F19), (20, F20), (22, F22)]) (by kernel_rfl) hr ht hES hst h0 (Eq.mp (by kernel_rfl) hall) (Eq.mp (by kernel_rfl) hf)

end Go.Proofs.Ytcncgkkilgmphaa
