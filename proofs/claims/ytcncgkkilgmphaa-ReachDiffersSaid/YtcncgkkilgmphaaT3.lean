import Derived.Test.YtcncgkkilgmphaaDr
import Derived.Test.YtcncgkkilgmphaaProg
set_option linter.unusedVariables false
set_option maxRecDepth 100000
namespace Go.Proofs.Ytcncgkkilgmphaa
open Go
theorem q24_6 {ia0 ib1 ii5 : Value} {w : World} {J : VF 1} (C : World → Prop) (hC : C { w with drawn := w.drawn + 1 })
    (h : ∀ _ : Nat → Value,
    Quiet Try.prog C (Instr.indexAt 23 ia0 ii5) w fun t19 w =>
    Quiet Try.prog C (Instr.loadAt 9 t19) w fun t20 w =>
    Quiet Try.prog C (Instr.indexAt 23 ib1 ii5) w fun t23 w =>
    Quiet Try.prog C (Instr.loadAt 9 t23) w fun t24 w =>
    Quiet Try.prog C (eqE .neq 9 (Go.Operand.tmp 20) (Go.Operand.tmp 24) t20 t24) w fun t25 w =>
    ∀ W, C W → J t25 W
    ) : DrawP Try.prog 26 (opsOf Try.f24 6) [0, 1, 5] [ia0, ib1, ii5] [25] J w :=
  draw_quiet C (by kernel_rfl) hC (Eq.mp (by kernel_rfl) h)

theorem q74_3 {ia0 ib1 : Value} {w : World} {J : VF 1} (C : World → Prop) (hC : C { w with drawn := w.drawn + 1 })
    (h : ∀ _ : Nat → Value,
    Quiet Try.prog C (Instr.indexAt 23 ib1 (Go.Value.int Go.IntKind.i64 0)) w fun t21 w =>
    Quiet Try.prog C (Instr.loadAt 9 t21) w fun t22 w =>
    Quiet Try.prog C (Instr.indexAt 23 ia0 (Go.Value.int Go.IntKind.i64 0)) w fun t24 w =>
    Quiet Try.prog C (Instr.loadAt 9 t24) w fun t25 w =>
    QCall Try.prog C 96 #[t22, t25] w fun t26 w =>
    Quiet Try.prog C (binOp .lss 3 t26 (Go.Value.int Go.IntKind.i64 0)) w fun t27 w =>
    ∀ W, C W → J t27 W
    ) : DrawP Try.prog 43 (opsOf Try.f74 3) [0, 1] [ia0, ib1] [27] J w :=
  draw_quiet C (by kernel_rfl) hC (Eq.mp (by kernel_rfl) h)

theorem p51_4 {il0 ihalf3 : Value} {w : World} {J : VF 1} (S : World → World → Prop) (F2 F3 F6 F7 F8 : Value → World → Prop) 
    (hr : ∀ W, S W W) (ht : ∀ a b c, S a b → S b c → S a c) (s2 : FSt S F2) (s3 : FSt S F3) (s6 : FSt S F6) (s7 : FSt S F7) (s8 : FSt S F8)
    (o2 : ∀ W, S { w with drawn := w.drawn + 1 } W → 
      Does Try.prog (Instr.sliceAt 23 il0 none (some ihalf3) none) W fun t14 w =>
      (S W w ∧ True ∧ F2 t14 w)
    )
    (o3 : ∀ t14 : Value, ∀ W, S { w with drawn := w.drawn + 1 } W → F2 t14 W → 
      Call Try.prog 51 #[t14] W fun t15 w =>
      (S W w ∧ True ∧ F3 t15 w)
    )
    (o6 : ∀ W, S { w with drawn := w.drawn + 1 } W → 
      Does Try.prog (Instr.sliceAt 23 il0 (some ihalf3) none none) W fun t18 w =>
      (S W w ∧ True ∧ F6 t18 w)
    )
    (o7 : ∀ t18 : Value, ∀ W, S { w with drawn := w.drawn + 1 } W → F6 t18 W → 
      Call Try.prog 51 #[t18] W fun t19 w =>
      (S W w ∧ True ∧ F7 t19 w)
    )
    (o8 : ∀ t15 t19 : Value, ∀ W, S { w with drawn := w.drawn + 1 } W → F3 t15 W → F7 t19 W → 
      Call Try.prog 74 #[t15, t19] W fun t20 w =>
      (S W w ∧ True ∧ F8 t20 w)
    )
    (fin : ∀ t2 : Value, ∀ W, S { w with drawn := w.drawn + 1 } W → F8 t2 W → J t2 W) :
    DrawP Try.prog 21 (opsOf Try.f51 4) [0, 3] [il0, ihalf3] [2] J w := by
  have hall : ∀ _ : Nat → Value,
    (∀ k : Nat, 0 ≤ k → k ≤ 0 → ∀ W, S { w with drawn := w.drawn + 1 } W → True → 
      (S W W ∧ True ∧ il0 = il0)
    ) ∧
    (∀ k : Nat, 0 ≤ k → k ≤ 0 → ∀ W, S { w with drawn := w.drawn + 1 } W → True → 
      (S W W ∧ True ∧ ihalf3 = ihalf3)
    ) ∧
    (∀ t12 t13 : Value, ∀ k : Nat, 0 ≤ k → k ≤ 0 → ∀ W, S { w with drawn := w.drawn + 1 } W → True → t12 = il0 → t13 = ihalf3 → 
      Does Try.prog (Instr.sliceAt 23 t12 none (some t13) none) W fun t14 w =>
      (S W w ∧ True ∧ F2 t14 w)
    ) ∧
    (∀ t14 : Value, ∀ k : Nat, 0 ≤ k → k ≤ 0 → ∀ W, S { w with drawn := w.drawn + 1 } W → True → F2 t14 W → 
      Call Try.prog 51 #[t14] W fun t15 w =>
      (S W w ∧ True ∧ F3 t15 w)
    ) ∧
    (∀ k : Nat, 0 ≤ k → k ≤ 0 → ∀ W, S { w with drawn := w.drawn + 1 } W → True → 
      (S W W ∧ True ∧ il0 = il0)
    ) ∧
    (∀ k : Nat, 0 ≤ k → k ≤ 0 → ∀ W, S { w with drawn := w.drawn + 1 } W → True → 
      (S W W ∧ True ∧ ihalf3 = ihalf3)
    ) ∧
    (∀ t16 t17 : Value, ∀ k : Nat, 0 ≤ k → k ≤ 0 → ∀ W, S { w with drawn := w.drawn + 1 } W → True → t16 = il0 → t17 = ihalf3 → 
      Does Try.prog (Instr.sliceAt 23 t16 (some t17) none none) W fun t18 w =>
      (S W w ∧ True ∧ F6 t18 w)
    ) ∧
    (∀ t18 : Value, ∀ k : Nat, 0 ≤ k → k ≤ 0 → ∀ W, S { w with drawn := w.drawn + 1 } W → True → F6 t18 W → 
      Call Try.prog 51 #[t18] W fun t19 w =>
      (S W w ∧ True ∧ F7 t19 w)
    ) ∧
    (∀ t15 t19 : Value, ∀ k : Nat, 0 ≤ k → k ≤ 0 → ∀ W, S { w with drawn := w.drawn + 1 } W → True → F3 t15 W → F7 t19 W → 
      Call Try.prog 74 #[t15, t19] W fun t20 w =>
      (S W w ∧ True ∧ F8 t20 w)
    ) ∧
    (∀ t20 : Value, ∀ k : Nat, 0 ≤ k → k ≤ 0 → ∀ W, S { w with drawn := w.drawn + 1 } W → True → F8 t20 W → 
      (S W W ∧ True ∧ F8 t20 W)
    ) ∧ True := fun _ => ⟨
    fun  k hk1 hk2 W hS hC  => ⟨hr W, hC, by first | rfl | simp_all⟩,
    fun  k hk1 hk2 W hS hC  => ⟨hr W, hC, by first | rfl | simp_all⟩,
    fun t12 t13 k hk1 hk2 W hS hC ht12 ht13 => (by obtain rfl : k = 0 := (by omega); subst ht12; subst ht13; exact o2  W hS ),
    fun t14 k hk1 hk2 W hS hC ht14 => (by obtain rfl : k = 0 := (by omega); exact o3 t14 W hS ht14),
    fun  k hk1 hk2 W hS hC  => ⟨hr W, hC, by first | rfl | simp_all⟩,
    fun  k hk1 hk2 W hS hC  => ⟨hr W, hC, by first | rfl | simp_all⟩,
    fun t16 t17 k hk1 hk2 W hS hC ht16 ht17 => (by obtain rfl : k = 0 := (by omega); subst ht16; subst ht17; exact o6  W hS ),
    fun t18 k hk1 hk2 W hS hC ht18 => (by obtain rfl : k = 0 := (by omega); exact o7 t18 W hS ht18),
    fun t15 t19 k hk1 hk2 W hS hC ht15 ht19 => (by obtain rfl : k = 0 := (by omega); exact o8 t15 t19 W hS ht15 ht19),
    fun t20 k hk1 hk2 W hS hC ht20 => ⟨hr W, hC, ht20⟩,
    trivial⟩
  have hst := lkF_st (S := S) (l := [(0, fun v _ => v = il0), (1, fun v _ => v = ihalf3), (2, F2), (3, F3), (4, fun v _ => v = il0), (5, fun v _ => v = ihalf3), (6, F6), (7, F7), (8, F8), (9, F8)]) (fun p hp => by
    simp only [List.mem_cons, List.not_mem_nil, or_false] at hp
    rcases hp with rfl | rfl | rfl | rfl | rfl | rfl | rfl | rfl | rfl | rfl
    · exact FSt.const _
    · exact FSt.const _
    · exact s2
    · exact s3
    · exact FSt.const _
    · exact FSt.const _
    · exact s6
    · exact s7
    · exact s8
    · exact s8
    )
  have hf : ∀ t2 : Value, ∀ W, S { w with drawn := w.drawn + 1 } W → True → F8 t2 W → J t2 W := fun t2 W hS hC ht2 => (by exact fin t2 W hS ht2)
  exact draw_phi (T := []) S S (fun _ _ => True) (lkF [(0, fun v _ => v = il0), (1, fun v _ => v = ihalf3), (2, F2), (3, F3), (4, fun v _ => v = il0), (5, fun v _ => v = ihalf3), (6, F6), (7, F7), (8, F8), (9, F8)]) (by kernel_rfl) hr ht (fun _ _ h => h) hst trivial (Eq.mp (by kernel_rfl) hall) (Eq.mp (by kernel_rfl) hf)

theorem q79_6 {is0 ik3 : Value} {w : World} {J : VF 1} (C : World → Prop) (hC : C { w with drawn := w.drawn + 1 })
    (h : ∀ _ : Nat → Value,
    Quiet Try.prog C (Instr.indexAt 23 is0 ik3) w fun t18 w =>
    Quiet Try.prog C (Instr.loadAt 9 t18) w fun t19 w =>
    Quiet Try.prog C (binOp .sub 3 ik3 (Go.Value.int Go.IntKind.i64 1)) w fun t22 w =>
    Quiet Try.prog C (Instr.indexAt 23 is0 t22) w fun t23 w =>
    Quiet Try.prog C (Instr.loadAt 9 t23) w fun t24 w =>
    Quiet Try.prog C (eqE .eql 9 (Go.Operand.tmp 19) (Go.Operand.tmp 24) t19 t24) w fun t25 w =>
    ∀ W, C W → J t25 W
    ) : DrawP Try.prog 61 (opsOf Try.f79 6) [0, 3] [is0, ik3] [25] J w :=
  draw_quiet C (by kernel_rfl) hC (Eq.mp (by kernel_rfl) h)

theorem q79_11 {is24 ik25 : Value} {w : World} {J : VF 1} (C : World → Prop) (hC : C { w with drawn := w.drawn + 1 })
    (h : ∀ _ : Nat → Value,
    Quiet Try.prog C (Instr.indexAt 23 is24 ik25) w fun t37 w =>
    Quiet Try.prog C (Instr.loadAt 9 t37) w fun t38 w =>
    Quiet Try.prog C (binOp .sub 3 ik25 (Go.Value.int Go.IntKind.i64 1)) w fun t41 w =>
    Quiet Try.prog C (Instr.indexAt 23 is24 t41) w fun t42 w =>
    Quiet Try.prog C (Instr.loadAt 9 t42) w fun t43 w =>
    Quiet Try.prog C (eqE .neq 9 (Go.Operand.tmp 38) (Go.Operand.tmp 43) t38 t43) w fun t44 w =>
    ∀ W, C W → J t44 W
    ) : DrawP Try.prog 61 (opsOf Try.f79 11) [4, 5] [is24, ik25] [44] J w :=
  draw_quiet C (by kernel_rfl) hC (Eq.mp (by kernel_rfl) h)

theorem q13_6 {il0 iout3 ii4 ik5 : Value} {w : World} {J : VF 1} (C : World → Prop) (hC : C { w with drawn := w.drawn + 1 })
    (h : ∀ _ : Nat → Value,
    Quiet Try.prog C (binOp .gtr 3 ik5 (Go.Value.int Go.IntKind.i64 0)) w fun t15 w =>
    JoinP 1 (fun j1 => GuardP t15 true (
      Quiet Try.prog C (binOp .sub 3 ik5 (Go.Value.int Go.IntKind.i64 1)) w fun t19 w =>
      Quiet Try.prog C (Instr.indexAt 23 iout3 t19) w fun t20 w =>
      Quiet Try.prog C (Instr.loadAt 9 t20) w fun t21 w =>
      Quiet Try.prog C (Instr.indexAt 23 il0 ii4) w fun t24 w =>
      Quiet Try.prog C (Instr.loadAt 9 t24) w fun t25 w =>
      Quiet Try.prog C (binOp .geq 9 t21 t25) w fun t26 w =>
      j1 t26 w
    ) (j1 undef w))
    (fun t26 w => ∀ _ : Nat → Value,
    PickP t15 t26 (Go.Value.bool false) fun t27 =>
    ∀ W, C W → J t27 W
    )
    ) : DrawP Try.prog 59 (opsOf Try.f13 6) [0, 3, 4, 5] [il0, iout3, ii4, ik5] [27] J w :=
  draw_quiet C (by kernel_rfl) hC (Eq.mp (by kernel_rfl) h)

theorem q13_8 {il0 iout3 ii4 ik5 : Value} {w : World} {J : VF 1} (C : World → Prop) (hC : C { w with drawn := w.drawn + 1 })
    (h : ∀ _ : Nat → Value,
    Quiet Try.prog C (Builtin.len_ #[23] 3 #[iout3]) w fun t32 w =>
    Quiet Try.prog C (binOp .lss 3 ik5 t32) w fun t33 w =>
    JoinP 1 (fun j1 => GuardP t33 true (
      Quiet Try.prog C (Instr.indexAt 23 iout3 ik5) w fun t37 w =>
      Quiet Try.prog C (Instr.loadAt 9 t37) w fun t38 w =>
      Quiet Try.prog C (Instr.indexAt 23 il0 ii4) w fun t41 w =>
      Quiet Try.prog C (Instr.loadAt 9 t41) w fun t42 w =>
      Quiet Try.prog C (eqE .eql 9 (Go.Operand.tmp 38) (Go.Operand.tmp 42) t38 t42) w fun t43 w =>
      j1 t43 w
    ) (j1 undef w))
    (fun t43 w => ∀ _ : Nat → Value,
    PickP t33 t43 (Go.Value.bool false) fun t44 =>
    ∀ W, C W → J t44 W
    )
    ) : DrawP Try.prog 59 (opsOf Try.f13 8) [0, 3, 4, 5] [il0, iout3, ii4, ik5] [44] J w :=
  draw_quiet C (by kernel_rfl) hC (Eq.mp (by kernel_rfl) h)

theorem p13_9 {il0 iout3 ii4 ik5 : Value} {w : World} {J : VF 1} (E S : World → World → Prop) (C : Nat → World → Prop) (F2 F5 F6 F7 F10 F11 F12 : Value → World → Prop) 
    (he : ∀ W, E W W) (hES : ∀ W W1, E W W1 → S W W1) (hr : ∀ W, S W W) (ht : ∀ a b c, S a b → S b c → S a c) (s2 : FSt E F2) (s5 : FSt E F5) (s6 : FSt E F6) (s7 : FSt E F7) (s10 : FSt E F10) (s11 : FSt E F11) (s12 : FSt E F12)
    (h0 : C 0 { w with drawn := w.drawn + 1 })
    (o2 : ∀ W, S { w with drawn := w.drawn + 1 } W → C 0 W → 
      Does Try.prog (Instr.sliceAt 23 iout3 none (some ik5) none) W fun t47 w =>
      (E W w ∧ C 0 w ∧ F2 t47 w)
    )
    (o5 : ∀ k : Nat, 0 ≤ k → k ≤ 1 → ∀ W, S { w with drawn := w.drawn + 1 } W → C k W → 
      Does Try.prog (Instr.indexAt 23 il0 ii4) W fun t50 w =>
      (E W w ∧ C k w ∧ F5 t50 w)
    )
    (o6 : ∀ t50 : Value, ∀ k : Nat, 0 ≤ k → k ≤ 1 → ∀ W, S { w with drawn := w.drawn + 1 } W → C k W → F5 t50 W → 
      Does Try.prog (Instr.loadAt 9 t50) W fun t51 w =>
      (E W w ∧ C k w ∧ F6 t51 w)
    )
    (o7 : ∀ t51 : Value, ∀ k : Nat, 0 ≤ k → k ≤ 1 → ∀ W, S { w with drawn := w.drawn + 1 } W → C k W → F6 t51 W → 
      Does Try.prog (Instr.buildSlice 23 1 #[(0, t51)]) W fun t52 w =>
      (E W w ∧ C k w ∧ F7 t52 w)
    )
    (o10 : ∀ k : Nat, 0 ≤ k → k ≤ 1 → ∀ W, S { w with drawn := w.drawn + 1 } W → C k W → 
      Does Try.prog (Instr.sliceAt 23 iout3 (some ik5) none none) W fun t55 w =>
      (E W w ∧ C k w ∧ F10 t55 w)
    )
    (o11 : ∀ t52 t55 : Value, ∀ W, S { w with drawn := w.drawn + 1 } W → C 0 W → F7 t52 W → F10 t55 W → 
      Does Try.prog (Builtin.append_ #[23, 23] 23 #[t52, t55]) W fun t56 w =>
      (E W w ∧ C 0 w ∧ F11 t56 w)
    )
    (o12 : ∀ t47 t56 : Value, ∀ W, S { w with drawn := w.drawn + 1 } W → C 0 W → F2 t47 W → F11 t56 W → 
      Does Try.prog (Builtin.append_ #[23, 23] 23 #[t47, t56]) W fun t57 w =>
      (S W w ∧ C 1 w ∧ F12 t57 w ∧ (∀ v, F2 v W → F2 v w) ∧ (∀ v, F5 v W → F5 v w) ∧ (∀ v, F6 v W → F6 v w) ∧ (∀ v, F7 v W → F7 v w) ∧ (∀ v, F10 v W → F10 v w) ∧ (∀ v, F11 v W → F11 v w) ∧ True)
    )
    (fin : ∀ out3 : Value, ∀ W, S { w with drawn := w.drawn + 1 } W → C 1 W → F12 out3 W → J out3 W) :
    DrawP Try.prog 59 (opsOf Try.f13 9) [0, 3, 4, 5] [il0, iout3, ii4, ik5] [3] J w := by
  have hall : ∀ _ : Nat → Value,
    (∀ k : Nat, 0 ≤ k → k ≤ 1 → ∀ W, S { w with drawn := w.drawn + 1 } W → C k W → 
      (E W W ∧ C k W ∧ iout3 = iout3)
    ) ∧
    (∀ k : Nat, 0 ≤ k → k ≤ 1 → ∀ W, S { w with drawn := w.drawn + 1 } W → C k W → 
      (E W W ∧ C k W ∧ ik5 = ik5)
    ) ∧
    (∀ t45 t46 : Value, ∀ k : Nat, 0 ≤ k → k ≤ 0 → ∀ W, S { w with drawn := w.drawn + 1 } W → C k W → t45 = iout3 → t46 = ik5 → 
      Does Try.prog (Instr.sliceAt 23 t45 none (some t46) none) W fun t47 w =>
      (E W w ∧ C k w ∧ F2 t47 w)
    ) ∧
    (∀ k : Nat, 0 ≤ k → k ≤ 1 → ∀ W, S { w with drawn := w.drawn + 1 } W → C k W → 
      (E W W ∧ C k W ∧ il0 = il0)
    ) ∧
    (∀ k : Nat, 0 ≤ k → k ≤ 1 → ∀ W, S { w with drawn := w.drawn + 1 } W → C k W → 
      (E W W ∧ C k W ∧ ii4 = ii4)
    ) ∧
    (∀ t48 t49 : Value, ∀ k : Nat, 0 ≤ k → k ≤ 1 → ∀ W, S { w with drawn := w.drawn + 1 } W → C k W → t48 = il0 → t49 = ii4 → 
      Does Try.prog (Instr.indexAt 23 t48 t49) W fun t50 w =>
      (E W w ∧ C k w ∧ F5 t50 w)
    ) ∧
    (∀ t50 : Value, ∀ k : Nat, 0 ≤ k → k ≤ 1 → ∀ W, S { w with drawn := w.drawn + 1 } W → C k W → F5 t50 W → 
      Does Try.prog (Instr.loadAt 9 t50) W fun t51 w =>
      (E W w ∧ C k w ∧ F6 t51 w)
    ) ∧
    (∀ t51 : Value, ∀ k : Nat, 0 ≤ k → k ≤ 1 → ∀ W, S { w with drawn := w.drawn + 1 } W → C k W → F6 t51 W → 
      Does Try.prog (Instr.buildSlice 23 1 #[(0, t51)]) W fun t52 w =>
      (E W w ∧ C k w ∧ F7 t52 w)
    ) ∧
    (∀ k : Nat, 0 ≤ k → k ≤ 1 → ∀ W, S { w with drawn := w.drawn + 1 } W → C k W → 
      (E W W ∧ C k W ∧ iout3 = iout3)
    ) ∧
    (∀ k : Nat, 0 ≤ k → k ≤ 1 → ∀ W, S { w with drawn := w.drawn + 1 } W → C k W → 
      (E W W ∧ C k W ∧ ik5 = ik5)
    ) ∧
    (∀ t53 t54 : Value, ∀ k : Nat, 0 ≤ k → k ≤ 1 → ∀ W, S { w with drawn := w.drawn + 1 } W → C k W → t53 = iout3 → t54 = ik5 → 
      Does Try.prog (Instr.sliceAt 23 t53 (some t54) none none) W fun t55 w =>
      (E W w ∧ C k w ∧ F10 t55 w)
    ) ∧
    (∀ t52 t55 : Value, ∀ k : Nat, 0 ≤ k → k ≤ 0 → ∀ W, S { w with drawn := w.drawn + 1 } W → C k W → F7 t52 W → F10 t55 W → 
      Does Try.prog (Builtin.append_ #[23, 23] 23 #[t52, t55]) W fun t56 w =>
      (E W w ∧ C k w ∧ F11 t56 w)
    ) ∧
    (∀ t47 t56 : Value, ∀ W, S { w with drawn := w.drawn + 1 } W → C 0 W → F2 t47 W → F11 t56 W → 
      Does Try.prog (Builtin.append_ #[23, 23] 23 #[t47, t56]) W fun t57 w =>
      (S W w ∧ C 1 w ∧ F12 t57 w ∧ (∀ v : Value, v = iout3 → v = iout3) ∧ (∀ v : Value, v = ik5 → v = ik5) ∧ (∀ v : Value, F2 v W → F2 v w) ∧ (∀ v : Value, v = il0 → v = il0) ∧ (∀ v : Value, v = ii4 → v = ii4) ∧ (∀ v : Value, F5 v W → F5 v w) ∧ (∀ v : Value, F6 v W → F6 v w) ∧ (∀ v : Value, F7 v W → F7 v w) ∧ (∀ v : Value, v = iout3 → v = iout3) ∧ (∀ v : Value, v = ik5 → v = ik5) ∧ (∀ v : Value, F10 v W → F10 v w) ∧ (∀ v : Value, F11 v W → F11 v w) ∧ True)
    ) ∧
    (∀ t57 : Value, ∀ k : Nat, 1 ≤ k → k ≤ 1 → ∀ W, S { w with drawn := w.drawn + 1 } W → C k W → F12 t57 W → 
      (E W W ∧ C k W ∧ F12 t57 W)
    ) ∧ True := fun _ => ⟨
    fun  k hk1 hk2 W hS hC  => ⟨he W, hC, by first | rfl | simp_all⟩,
    fun  k hk1 hk2 W hS hC  => ⟨he W, hC, by first | rfl | simp_all⟩,
    fun t45 t46 k hk1 hk2 W hS hC ht45 ht46 => (by obtain rfl : k = 0 := (by omega); subst ht45; subst ht46; exact o2  W hS hC ),
    fun  k hk1 hk2 W hS hC  => ⟨he W, hC, by first | rfl | simp_all⟩,
    fun  k hk1 hk2 W hS hC  => ⟨he W, hC, by first | rfl | simp_all⟩,
    fun t48 t49 k hk1 hk2 W hS hC ht48 ht49 => (by subst ht48; subst ht49; exact o5  k hk1 hk2 W hS hC ),
    fun t50 k hk1 hk2 W hS hC ht50 => (by exact o6 t50 k hk1 hk2 W hS hC ht50),
    fun t51 k hk1 hk2 W hS hC ht51 => (by exact o7 t51 k hk1 hk2 W hS hC ht51),
    fun  k hk1 hk2 W hS hC  => ⟨he W, hC, by first | rfl | simp_all⟩,
    fun  k hk1 hk2 W hS hC  => ⟨he W, hC, by first | rfl | simp_all⟩,
    fun t53 t54 k hk1 hk2 W hS hC ht53 ht54 => (by subst ht53; subst ht54; exact o10  k hk1 hk2 W hS hC ),
    fun t52 t55 k hk1 hk2 W hS hC ht52 ht55 => (by obtain rfl : k = 0 := (by omega); exact o11 t52 t55 W hS hC ht52 ht55),
    fun t47 t56 W hS hC ht47 ht56 => (by exact Does.mono (o12 t47 t56 W hS hC ht47 ht56) fun _ _ h => ⟨h.1, h.2.1, h.2.2.1, fun _ h => h, fun _ h => h, h.2.2.2.1, fun _ h => h, fun _ h => h, h.2.2.2.2.1, h.2.2.2.2.2.1, h.2.2.2.2.2.2.1, fun _ h => h, fun _ h => h, h.2.2.2.2.2.2.2.1, h.2.2.2.2.2.2.2.2.1, trivial⟩),
    fun t57 k hk1 hk2 W hS hC ht57 => ⟨he W, hC, ht57⟩,
    trivial⟩
  have hst := lkF_st (S := E) (l := [(0, fun v _ => v = iout3), (1, fun v _ => v = ik5), (2, F2), (3, fun v _ => v = il0), (4, fun v _ => v = ii4), (5, F5), (6, F6), (7, F7), (8, fun v _ => v = iout3), (9, fun v _ => v = ik5), (10, F10), (11, F11), (12, F12), (13, F12)]) (fun p hp => by
    simp only [List.mem_cons, List.not_mem_nil, or_false] at hp
    rcases hp with rfl | rfl | rfl | rfl | rfl | rfl | rfl | rfl | rfl | rfl | rfl | rfl | rfl | rfl
    · exact FSt.const _
    · exact FSt.const _
    · exact s2
    · exact FSt.const _
    · exact FSt.const _
    · exact s5
    · exact s6
    · exact s7
    · exact FSt.const _
    · exact FSt.const _
    · exact s10
    · exact s11
    · exact s12
    · exact s12
    )
  have hf : ∀ out3 : Value, ∀ W, S { w with drawn := w.drawn + 1 } W → C 1 W → F12 out3 W → J out3 W := fun out3 W hS hC hout3 => (by exact fin out3 W hS hC hout3)
  exact draw_phi (T := [12]) E S C (lkF [(0, fun v _ => v = iout3), (1, fun v _ => v = ik5), (2, F2), (3, fun v _ => v = il0), (4, fun v _ => v = ii4), (5, F5), (6, F6), (7, F7), (8, fun v _ => v = iout3), (9, fun v _ => v = ik5), (10, F10), (11, F11), (12, F12), (13, F12)]) (by kernel_rfl) hr ht hES hst h0 (Eq.mp (by kernel_rfl) hall) (Eq.mp (by kernel_rfl) hf)

theorem p22_17 {ig0 iid1 iparents2 istamp3 : Value} {w : World} {J : VF 0} (E S : World → World → Prop) (C : Nat → World → Prop) (F1 F2 F3 F6 F8 : Value → World → Prop) 
    (he : ∀ W, E W W) (hES : ∀ W W1, E W W1 → S W W1) (hr : ∀ W, S W W) (ht : ∀ a b c, S a b → S b c → S a c) (s1 : FSt E F1) (s2 : FSt E F2) (s3 : FSt E F3) (s6 : FSt E F6) (s8 : FSt E F8)
    (h0 : C 0 { w with drawn := w.drawn + 1 })
    (o1 : ∀ W, S { w with drawn := w.drawn + 1 } W → C 0 W → 
      NilCheckP ig0 fun t51 =>
      (E W W ∧ C 0 W ∧ F1 t51 W)
    )
    (o2 : ∀ t51 : Value, ∀ W, S { w with drawn := w.drawn + 1 } W → C 0 W → F1 t51 W → 
      Does Try.prog (Instr.fieldAt 92 t51 0) W fun t52 w =>
      (E W w ∧ C 0 w ∧ F2 t52 w)
    )
    (o3 : ∀ t52 : Value, ∀ W, S { w with drawn := w.drawn + 1 } W → C 0 W → F2 t52 W → 
      Does Try.prog (Instr.loadAt 90 t52) W fun t53 w =>
      (E W w ∧ C 0 w ∧ F3 t53 w)
    )
    (o6 : ∀ W, S { w with drawn := w.drawn + 1 } W → C 0 W → 
      Call Try.prog 58 #[iparents2] W fun t56 w =>
      (E W w ∧ C 0 w ∧ F6 t56 w)
    )
    (o8 : ∀ t56 : Value, ∀ W, S { w with drawn := w.drawn + 1 } W → C 0 W → F6 t56 W → 
      Does Try.prog (Instr.build 94 #[(0, t56), (1, istamp3)]) W fun t58 w =>
      (E W w ∧ C 0 w ∧ F8 t58 w)
    )
    (o9 : ∀ t53 t58 : Value, ∀ W, S { w with drawn := w.drawn + 1 } W → C 0 W → F3 t53 W → F8 t58 W → 
      Does Try.prog (Instr.mapUpdate 90 t53 iid1 t58) W fun _ w =>
      (S W w ∧ C 1 w ∧ True ∧ (∀ v, F1 v W → F1 v w) ∧ (∀ v, F2 v W → F2 v w) ∧ (∀ v, F3 v W → F3 v w) ∧ (∀ v, F6 v W → F6 v w) ∧ (∀ v, F8 v W → F8 v w) ∧ True)
    )
    (fin : ∀ W, S { w with drawn := w.drawn + 1 } W → C 1 W → J  W) :
    DrawP Try.prog 59 (opsOf Try.f22 17) [0, 1, 2, 3] [ig0, iid1, iparents2, istamp3] [] J w := by
  have hall : ∀ _ : Nat → Value,
    (∀ k : Nat, 0 ≤ k → k ≤ 0 → ∀ W, S { w with drawn := w.drawn + 1 } W → C k W → 
      (E W W ∧ C k W ∧ ig0 = ig0)
    ) ∧
    (∀ t50 : Value, ∀ k : Nat, 0 ≤ k → k ≤ 0 → ∀ W, S { w with drawn := w.drawn + 1 } W → C k W → t50 = ig0 → 
      NilCheckP t50 fun t51 =>
      (E W W ∧ C k W ∧ F1 t51 W)
    ) ∧
    (∀ t51 : Value, ∀ k : Nat, 0 ≤ k → k ≤ 0 → ∀ W, S { w with drawn := w.drawn + 1 } W → C k W → F1 t51 W → 
      Does Try.prog (Instr.fieldAt 92 t51 0) W fun t52 w =>
      (E W w ∧ C k w ∧ F2 t52 w)
    ) ∧
    (∀ t52 : Value, ∀ k : Nat, 0 ≤ k → k ≤ 0 → ∀ W, S { w with drawn := w.drawn + 1 } W → C k W → F2 t52 W → 
      Does Try.prog (Instr.loadAt 90 t52) W fun t53 w =>
      (E W w ∧ C k w ∧ F3 t53 w)
    ) ∧
    (∀ k : Nat, 0 ≤ k → k ≤ 0 → ∀ W, S { w with drawn := w.drawn + 1 } W → C k W → 
      (E W W ∧ C k W ∧ iid1 = iid1)
    ) ∧
    (∀ k : Nat, 0 ≤ k → k ≤ 0 → ∀ W, S { w with drawn := w.drawn + 1 } W → C k W → 
      (E W W ∧ C k W ∧ iparents2 = iparents2)
    ) ∧
    (∀ t55 : Value, ∀ k : Nat, 0 ≤ k → k ≤ 0 → ∀ W, S { w with drawn := w.drawn + 1 } W → C k W → t55 = iparents2 → 
      Call Try.prog 58 #[t55] W fun t56 w =>
      (E W w ∧ C k w ∧ F6 t56 w)
    ) ∧
    (∀ k : Nat, 0 ≤ k → k ≤ 0 → ∀ W, S { w with drawn := w.drawn + 1 } W → C k W → 
      (E W W ∧ C k W ∧ istamp3 = istamp3)
    ) ∧
    (∀ t56 t57 : Value, ∀ k : Nat, 0 ≤ k → k ≤ 0 → ∀ W, S { w with drawn := w.drawn + 1 } W → C k W → F6 t56 W → t57 = istamp3 → 
      Does Try.prog (Instr.build 94 #[(0, t56), (1, t57)]) W fun t58 w =>
      (E W w ∧ C k w ∧ F8 t58 w)
    ) ∧
    (∀ t53 t54 t58 : Value, ∀ W, S { w with drawn := w.drawn + 1 } W → C 0 W → F3 t53 W → t54 = iid1 → F8 t58 W → 
      Does Try.prog (Instr.mapUpdate 90 t53 t54 t58) W fun _ w =>
      (S W w ∧ C 1 w ∧ True ∧ (∀ v : Value, v = ig0 → v = ig0) ∧ (∀ v : Value, F1 v W → F1 v w) ∧ (∀ v : Value, F2 v W → F2 v w) ∧ (∀ v : Value, F3 v W → F3 v w) ∧ (∀ v : Value, v = iid1 → v = iid1) ∧ (∀ v : Value, v = iparents2 → v = iparents2) ∧ (∀ v : Value, F6 v W → F6 v w) ∧ (∀ v : Value, v = istamp3 → v = istamp3) ∧ (∀ v : Value, F8 v W → F8 v w) ∧ True)
    ) ∧ True := fun _ => ⟨
    fun  k hk1 hk2 W hS hC  => ⟨he W, hC, by first | rfl | simp_all⟩,
    fun t50 k hk1 hk2 W hS hC ht50 => (by obtain rfl : k = 0 := (by omega); subst ht50; exact o1  W hS hC ),
    fun t51 k hk1 hk2 W hS hC ht51 => (by obtain rfl : k = 0 := (by omega); exact o2 t51 W hS hC ht51),
    fun t52 k hk1 hk2 W hS hC ht52 => (by obtain rfl : k = 0 := (by omega); exact o3 t52 W hS hC ht52),
    fun  k hk1 hk2 W hS hC  => ⟨he W, hC, by first | rfl | simp_all⟩,
    fun  k hk1 hk2 W hS hC  => ⟨he W, hC, by first | rfl | simp_all⟩,
    fun t55 k hk1 hk2 W hS hC ht55 => (by obtain rfl : k = 0 := (by omega); subst ht55; exact o6  W hS hC ),
    fun  k hk1 hk2 W hS hC  => ⟨he W, hC, by first | rfl | simp_all⟩,
    fun t56 t57 k hk1 hk2 W hS hC ht56 ht57 => (by obtain rfl : k = 0 := (by omega); subst ht57; exact o8 t56 W hS hC ht56),
    fun t53 t54 t58 W hS hC ht53 ht54 ht58 => (by subst ht54; exact Does.mono (o9 t53 t58 W hS hC ht53 ht58) fun _ _ h => ⟨h.1, h.2.1, h.2.2.1, fun _ h => h, h.2.2.2.1, h.2.2.2.2.1, h.2.2.2.2.2.1, fun _ h => h, fun _ h => h, h.2.2.2.2.2.2.1, fun _ h => h, h.2.2.2.2.2.2.2.1, trivial⟩),
    trivial⟩
  have hst := lkF_st (S := E) (l := [(0, fun v _ => v = ig0), (1, F1), (2, F2), (3, F3), (4, fun v _ => v = iid1), (5, fun v _ => v = iparents2), (6, F6), (7, fun v _ => v = istamp3), (8, F8)]) (fun p hp => by
    simp only [List.mem_cons, List.not_mem_nil, or_false] at hp
    rcases hp with rfl | rfl | rfl | rfl | rfl | rfl | rfl | rfl | rfl
    · exact FSt.const _
    · exact s1
    · exact s2
    · exact s3
    · exact FSt.const _
    · exact FSt.const _
    · exact s6
    · exact FSt.const _
    · exact s8
    )
  have hf : ∀ W, S { w with drawn := w.drawn + 1 } W → C 1 W → J  W := fun  W hS hC  => (by exact fin  W hS hC )
  exact draw_phi (T := [9]) E S C (lkF [(0, fun v _ => v = ig0), (1, F1), (2, F2), (3, F3), (4, fun v _ => v = iid1), (5, fun v _ => v = iparents2), (6, F6), (7, fun v _ => v = istamp3), (8, F8)]) (by kernel_rfl) hr ht hES hst h0 (Eq.mp (by kernel_rfl) hall) (Eq.mp (by kernel_rfl) hf)

end Go.Proofs.Ytcncgkkilgmphaa
