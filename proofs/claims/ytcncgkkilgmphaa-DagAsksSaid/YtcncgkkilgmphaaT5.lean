import Derived.Test.YtcncgkkilgmphaaDr
import Derived.Test.YtcncgkkilgmphaaProg
set_option linter.unusedVariables false
set_option maxRecDepth 100000
namespace Go.Proofs.Ytcncgkkilgmphaa
open Go
theorem q29_3 {ig0 iid1 : Value} {w : World} {J : VF 1} (C : World → Prop) (hC : C { w with drawn := w.drawn + 1 })
    (h : ∀ _ : Nat → Value,
    NilCheckP ig0 fun t10 =>
    Quiet Try.prog C (Instr.fieldAt 52 t10 2) w fun t11 w =>
    Quiet Try.prog C (Instr.loadAt 50 t11) w fun t12 w =>
    QCall Try.prog C 59 #[ig0, iid1] w fun t15 w =>
    Quiet Try.prog C (Instr.indexAt 50 t12 t15) w fun t16 w =>
    Quiet Try.prog C (Instr.loadAt 3 t16) w fun t17 w =>
    ∀ W, C W → J t17 W
    ) : DrawP Try.prog 18 (opsOf Try.f29 3) [0, 1] [ig0, iid1] [4] J w :=
  draw_quiet C (by kernel_rfl) hC (Eq.mp (by kernel_rfl) h)

theorem p31_3 {ig0 iid1 : Value} {w : World} {J : VF 1} (S : World → World → Prop) (F1 F2 F3 F6 F7 F8 F9 : Value → World → Prop) 
    (hr : ∀ W, S W W) (ht : ∀ a b c, S a b → S b c → S a c) (s1 : FSt S F1) (s2 : FSt S F2) (s3 : FSt S F3) (s6 : FSt S F6) (s7 : FSt S F7) (s8 : FSt S F8) (s9 : FSt S F9)
    (o1 : ∀ W, S { w with drawn := w.drawn + 1 } W → 
      NilCheckP ig0 fun t10 =>
      (S W W ∧ True ∧ F1 t10 W)
    )
    (o2 : ∀ t10 : Value, ∀ W, S { w with drawn := w.drawn + 1 } W → F1 t10 W → 
      Does Try.prog (Instr.fieldAt 52 t10 1) W fun t11 w =>
      (S W w ∧ True ∧ F2 t11 w)
    )
    (o3 : ∀ t11 : Value, ∀ W, S { w with drawn := w.drawn + 1 } W → F2 t11 W → 
      Does Try.prog (Instr.loadAt 49 t11) W fun t12 w =>
      (S W w ∧ True ∧ F3 t12 w)
    )
    (o6 : ∀ W, S { w with drawn := w.drawn + 1 } W → 
      Call Try.prog 59 #[ig0, iid1] W fun t15 w =>
      (S W w ∧ True ∧ F6 t15 w)
    )
    (o7 : ∀ t12 t15 : Value, ∀ W, S { w with drawn := w.drawn + 1 } W → F3 t12 W → F6 t15 W → 
      Does Try.prog (Instr.indexAt 49 t12 t15) W fun t16 w =>
      (S W w ∧ True ∧ F7 t16 w)
    )
    (o8 : ∀ t16 : Value, ∀ W, S { w with drawn := w.drawn + 1 } W → F7 t16 W → 
      Does Try.prog (Instr.loadAt 23 t16) W fun t17 w =>
      (S W w ∧ True ∧ F8 t17 w)
    )
    (o9 : ∀ t17 : Value, ∀ W, S { w with drawn := w.drawn + 1 } W → F8 t17 W → 
      Call Try.prog 11 #[t17] W fun t18 w =>
      (S W w ∧ True ∧ F9 t18 w)
    )
    (fin : ∀ t4 : Value, ∀ W, S { w with drawn := w.drawn + 1 } W → F9 t4 W → J t4 W) :
    DrawP Try.prog 19 (opsOf Try.f31 3) [0, 1] [ig0, iid1] [4] J w := by
  have hall : ∀ _ : Nat → Value,
    (∀ k : Nat, 0 ≤ k → k ≤ 0 → ∀ W, S { w with drawn := w.drawn + 1 } W → True → 
      (S W W ∧ True ∧ ig0 = ig0)
    ) ∧
    (∀ t9 : Value, ∀ k : Nat, 0 ≤ k → k ≤ 0 → ∀ W, S { w with drawn := w.drawn + 1 } W → True → t9 = ig0 → 
      NilCheckP t9 fun t10 =>
      (S W W ∧ True ∧ F1 t10 W)
    ) ∧
    (∀ t10 : Value, ∀ k : Nat, 0 ≤ k → k ≤ 0 → ∀ W, S { w with drawn := w.drawn + 1 } W → True → F1 t10 W → 
      Does Try.prog (Instr.fieldAt 52 t10 1) W fun t11 w =>
      (S W w ∧ True ∧ F2 t11 w)
    ) ∧
    (∀ t11 : Value, ∀ k : Nat, 0 ≤ k → k ≤ 0 → ∀ W, S { w with drawn := w.drawn + 1 } W → True → F2 t11 W → 
      Does Try.prog (Instr.loadAt 49 t11) W fun t12 w =>
      (S W w ∧ True ∧ F3 t12 w)
    ) ∧
    (∀ k : Nat, 0 ≤ k → k ≤ 0 → ∀ W, S { w with drawn := w.drawn + 1 } W → True → 
      (S W W ∧ True ∧ ig0 = ig0)
    ) ∧
    (∀ k : Nat, 0 ≤ k → k ≤ 0 → ∀ W, S { w with drawn := w.drawn + 1 } W → True → 
      (S W W ∧ True ∧ iid1 = iid1)
    ) ∧
    (∀ t13 t14 : Value, ∀ k : Nat, 0 ≤ k → k ≤ 0 → ∀ W, S { w with drawn := w.drawn + 1 } W → True → t13 = ig0 → t14 = iid1 → 
      Call Try.prog 59 #[t13, t14] W fun t15 w =>
      (S W w ∧ True ∧ F6 t15 w)
    ) ∧
    (∀ t12 t15 : Value, ∀ k : Nat, 0 ≤ k → k ≤ 0 → ∀ W, S { w with drawn := w.drawn + 1 } W → True → F3 t12 W → F6 t15 W → 
      Does Try.prog (Instr.indexAt 49 t12 t15) W fun t16 w =>
      (S W w ∧ True ∧ F7 t16 w)
    ) ∧
    (∀ t16 : Value, ∀ k : Nat, 0 ≤ k → k ≤ 0 → ∀ W, S { w with drawn := w.drawn + 1 } W → True → F7 t16 W → 
      Does Try.prog (Instr.loadAt 23 t16) W fun t17 w =>
      (S W w ∧ True ∧ F8 t17 w)
    ) ∧
    (∀ t17 : Value, ∀ k : Nat, 0 ≤ k → k ≤ 0 → ∀ W, S { w with drawn := w.drawn + 1 } W → True → F8 t17 W → 
      Call Try.prog 11 #[t17] W fun t18 w =>
      (S W w ∧ True ∧ F9 t18 w)
    ) ∧
    (∀ t18 : Value, ∀ k : Nat, 0 ≤ k → k ≤ 0 → ∀ W, S { w with drawn := w.drawn + 1 } W → True → F9 t18 W → 
      (S W W ∧ True ∧ F9 t18 W)
    ) ∧ True := fun _ => ⟨
    fun  k hk1 hk2 W hS hC  => ⟨hr W, hC, by first | rfl | simp_all⟩,
    fun t9 k hk1 hk2 W hS hC ht9 => (by obtain rfl : k = 0 := (by omega); subst ht9; exact o1  W hS ),
    fun t10 k hk1 hk2 W hS hC ht10 => (by obtain rfl : k = 0 := (by omega); exact o2 t10 W hS ht10),
    fun t11 k hk1 hk2 W hS hC ht11 => (by obtain rfl : k = 0 := (by omega); exact o3 t11 W hS ht11),
    fun  k hk1 hk2 W hS hC  => ⟨hr W, hC, by first | rfl | simp_all⟩,
    fun  k hk1 hk2 W hS hC  => ⟨hr W, hC, by first | rfl | simp_all⟩,
    fun t13 t14 k hk1 hk2 W hS hC ht13 ht14 => (by obtain rfl : k = 0 := (by omega); subst ht13; subst ht14; exact o6  W hS ),
    fun t12 t15 k hk1 hk2 W hS hC ht12 ht15 => (by obtain rfl : k = 0 := (by omega); exact o7 t12 t15 W hS ht12 ht15),
    fun t16 k hk1 hk2 W hS hC ht16 => (by obtain rfl : k = 0 := (by omega); exact o8 t16 W hS ht16),
    fun t17 k hk1 hk2 W hS hC ht17 => (by obtain rfl : k = 0 := (by omega); exact o9 t17 W hS ht17),
    fun t18 k hk1 hk2 W hS hC ht18 => ⟨hr W, hC, ht18⟩,
    trivial⟩
  have hst := lkF_st (S := S) (l := [(0, fun v _ => v = ig0), (1, F1), (2, F2), (3, F3), (4, fun v _ => v = ig0), (5, fun v _ => v = iid1), (6, F6), (7, F7), (8, F8), (9, F9), (10, F9)]) (fun p hp => by
    simp only [List.mem_cons, List.not_mem_nil, or_false] at hp
    rcases hp with rfl | rfl | rfl | rfl | rfl | rfl | rfl | rfl | rfl | rfl | rfl
    · exact FSt.const _
    · exact s1
    · exact s2
    · exact s3
    · exact FSt.const _
    · exact FSt.const _
    · exact s6
    · exact s7
    · exact s8
    · exact s9
    · exact s9
    )
  have hf : ∀ t4 : Value, ∀ W, S { w with drawn := w.drawn + 1 } W → True → F9 t4 W → J t4 W := fun t4 W hS hC ht4 => (by exact fin t4 W hS ht4)
  exact draw_phi (T := []) S S (fun _ _ => True) (lkF [(0, fun v _ => v = ig0), (1, F1), (2, F2), (3, F3), (4, fun v _ => v = ig0), (5, fun v _ => v = iid1), (6, F6), (7, F7), (8, F8), (9, F9), (10, F9)]) (by kernel_rfl) hr ht (fun _ _ h => h) hst trivial (Eq.mp (by kernel_rfl) hall) (Eq.mp (by kernel_rfl) hf)

theorem q23_13 {it0 iA2 ir3 it10 : Value} {w : World} {J : VF 1} (C : World → Prop) (hC : C { w with drawn := w.drawn + 1 })
    (h : ∀ _ : Nat → Value,
    NilCheckP it0 fun t38 =>
    Quiet Try.prog C (Instr.fieldAt 52 t38 2) w fun t39 w =>
    Quiet Try.prog C (Instr.loadAt 50 t39) w fun t40 w =>
    Quiet Try.prog C (Instr.indexAt 23 iA2 it10) w fun t44 w =>
    Quiet Try.prog C (Instr.loadAt 9 t44) w fun t45 w =>
    QCall Try.prog C 59 #[it0, t45] w fun t46 w =>
    Quiet Try.prog C (Instr.indexAt 50 t40 t46) w fun t47 w =>
    Quiet Try.prog C (Instr.loadAt 3 t47) w fun t48 w =>
    Quiet Try.prog C (binOp .leq 3 ir3 t48) w fun t49 w =>
    ∀ W, C W → J t49 W
    ) : DrawP Try.prog 89 (opsOf Try.f23 13) [0, 2, 3, 10] [it0, iA2, ir3, it10] [49] J w :=
  draw_quiet C (by kernel_rfl) hC (Eq.mp (by kernel_rfl) h)

theorem p23_19 {it0 io1 iA2 ir3 : Value} {w : World} {J : VF 0} (E S : World → World → Prop) (C : Nat → World → Prop) (F4 F5 F6 F8 F9 F11 F12 F13 F15 F16 F17 F19 F20 F21 F23 F24 F25 F26 F28 F29 F31 F32 : Value → World → Prop) 
    (he : ∀ W, E W W) (hES : ∀ W W1, E W W1 → S W W1) (hr : ∀ W, S W W) (ht : ∀ a b c, S a b → S b c → S a c) (s4 : FSt E F4) (s5 : FSt E F5) (s6 : FSt E F6) (s8 : FSt E F8) (s9 : FSt E F9) (s11 : FSt E F11) (s12 : FSt E F12) (s13 : FSt E F13) (s15 : FSt E F15) (s16 : FSt E F16) (s17 : FSt E F17) (s19 : FSt E F19) (s20 : FSt E F20) (s21 : FSt E F21) (s23 : FSt E F23) (s24 : FSt E F24) (s25 : FSt E F25) (s26 : FSt E F26) (s28 : FSt E F28) (s29 : FSt E F29) (s31 : FSt E F31) (s32 : FSt E F32)
    (h0 : C 0 { w with drawn := w.drawn + 1 })
    (o4 : ∀ k : Nat, 0 ≤ k → k ≤ 4 → ∀ W, S { w with drawn := w.drawn + 1 } W → C k W → 
      NilCheckP it0 fun t62 =>
      (E W W ∧ C k W ∧ F4 t62 W)
    )
    (o5 : ∀ t62 : Value, ∀ k : Nat, 0 ≤ k → k ≤ 4 → ∀ W, S { w with drawn := w.drawn + 1 } W → C k W → F4 t62 W → 
      Does Try.prog (Instr.fieldAt 52 t62 0) W fun t63 w =>
      (E W w ∧ C k w ∧ F5 t63 w)
    )
    (o6 : ∀ t63 : Value, ∀ W, S { w with drawn := w.drawn + 1 } W → C 0 W → F5 t63 W → 
      Does Try.prog (Instr.loadAt 23 t63) W fun t64 w =>
      (E W w ∧ C 0 w ∧ F6 t64 w)
    )
    (o8 : ∀ W, S { w with drawn := w.drawn + 1 } W → C 0 W → 
      Does Try.prog (Instr.buildSlice 23 1 #[(0, io1)]) W fun t66 w =>
      (E W w ∧ C 0 w ∧ F8 t66 w)
    )
    (o9 : ∀ t64 t66 : Value, ∀ W, S { w with drawn := w.drawn + 1 } W → C 0 W → F6 t64 W → F8 t66 W → 
      Does Try.prog (Builtin.append_ #[23, 23] 23 #[t64, t66]) W fun t67 w =>
      (S W w ∧ C 1 w ∧ F9 t67 w ∧ (∀ v, F4 v W → F4 v w) ∧ (∀ v, F5 v W → F5 v w) ∧ (∀ v, F6 v W → F6 v w) ∧ (∀ v, F8 v W → F8 v w) ∧ (∀ v, F11 v W → F11 v w) ∧ (∀ v, F12 v W → F12 v w) ∧ (∀ v, F13 v W → F13 v w) ∧ (∀ v, F19 v W → F19 v w) ∧ (∀ v, F20 v W → F20 v w) ∧ (∀ v, F21 v W → F21 v w) ∧ (∀ v, F23 v W → F23 v w) ∧ True)
    )
    (o11 : ∀ k : Nat, 0 ≤ k → k ≤ 5 → ∀ W, S { w with drawn := w.drawn + 1 } W → C k W → 
      NilCheckP it0 fun t69 =>
      (E W W ∧ C k W ∧ F11 t69 W)
    )
    (o12 : ∀ t69 : Value, ∀ k : Nat, 0 ≤ k → k ≤ 5 → ∀ W, S { w with drawn := w.drawn + 1 } W → C k W → F11 t69 W → 
      Does Try.prog (Instr.fieldAt 52 t69 1) W fun t70 w =>
      (E W w ∧ C k w ∧ F12 t70 w)
    )
    (o13 : ∀ t70 : Value, ∀ k : Nat, 0 ≤ k → k ≤ 2 → ∀ W, S { w with drawn := w.drawn + 1 } W → C k W → F12 t70 W → 
      Does Try.prog (Instr.loadAt 49 t70) W fun t71 w =>
      (E W w ∧ C k w ∧ F13 t71 w)
    )
    (o15 : ∀ W, S { w with drawn := w.drawn + 1 } W → C 1 W → 
      Call Try.prog 13 #[iA2] W fun t73 w =>
      (S W w ∧ C 2 w ∧ F15 t73 w ∧ (∀ v, F4 v W → F4 v w) ∧ (∀ v, F5 v W → F5 v w) ∧ (∀ v, F6 v W → F6 v w) ∧ (∀ v, F8 v W → F8 v w) ∧ (∀ v, F9 v W → F9 v w) ∧ (∀ v, F11 v W → F11 v w) ∧ (∀ v, F12 v W → F12 v w) ∧ (∀ v, F13 v W → F13 v w) ∧ (∀ v, F19 v W → F19 v w) ∧ (∀ v, F20 v W → F20 v w) ∧ (∀ v, F21 v W → F21 v w) ∧ (∀ v, F23 v W → F23 v w) ∧ True)
    )
    (o16 : ∀ t73 : Value, ∀ W, S { w with drawn := w.drawn + 1 } W → C 2 W → F15 t73 W → 
      Does Try.prog (Instr.buildSlice 49 1 #[(0, t73)]) W fun t74 w =>
      (E W w ∧ C 2 w ∧ F16 t74 w)
    )
    (o17 : ∀ t71 t74 : Value, ∀ W, S { w with drawn := w.drawn + 1 } W → C 2 W → F13 t71 W → F16 t74 W → 
      Does Try.prog (Builtin.append_ #[49, 49] 49 #[t71, t74]) W fun t75 w =>
      (S W w ∧ C 3 w ∧ F17 t75 w ∧ (∀ v, F4 v W → F4 v w) ∧ (∀ v, F5 v W → F5 v w) ∧ (∀ v, F6 v W → F6 v w) ∧ (∀ v, F8 v W → F8 v w) ∧ (∀ v, F9 v W → F9 v w) ∧ (∀ v, F11 v W → F11 v w) ∧ (∀ v, F12 v W → F12 v w) ∧ (∀ v, F13 v W → F13 v w) ∧ (∀ v, F15 v W → F15 v w) ∧ (∀ v, F16 v W → F16 v w) ∧ (∀ v, F19 v W → F19 v w) ∧ (∀ v, F20 v W → F20 v w) ∧ (∀ v, F21 v W → F21 v w) ∧ (∀ v, F23 v W → F23 v w) ∧ True)
    )
    (o19 : ∀ k : Nat, 0 ≤ k → k ≤ 6 → ∀ W, S { w with drawn := w.drawn + 1 } W → C k W → 
      NilCheckP it0 fun t77 =>
      (E W W ∧ C k W ∧ F19 t77 W)
    )
    (o20 : ∀ t77 : Value, ∀ k : Nat, 0 ≤ k → k ≤ 6 → ∀ W, S { w with drawn := w.drawn + 1 } W → C k W → F19 t77 W → 
      Does Try.prog (Instr.fieldAt 52 t77 2) W fun t78 w =>
      (E W w ∧ C k w ∧ F20 t78 w)
    )
    (o21 : ∀ t78 : Value, ∀ k : Nat, 0 ≤ k → k ≤ 3 → ∀ W, S { w with drawn := w.drawn + 1 } W → C k W → F20 t78 W → 
      Does Try.prog (Instr.loadAt 50 t78) W fun t79 w =>
      (E W w ∧ C k w ∧ F21 t79 w)
    )
    (o23 : ∀ k : Nat, 0 ≤ k → k ≤ 3 → ∀ W, S { w with drawn := w.drawn + 1 } W → C k W → 
      Does Try.prog (Instr.buildSlice 50 1 #[(0, ir3)]) W fun t81 w =>
      (E W w ∧ C k w ∧ F23 t81 w)
    )
    (o24 : ∀ t79 t81 : Value, ∀ W, S { w with drawn := w.drawn + 1 } W → C 3 W → F21 t79 W → F23 t81 W → 
      Does Try.prog (Builtin.append_ #[50, 50] 50 #[t79, t81]) W fun t82 w =>
      (S W w ∧ C 4 w ∧ F24 t82 w ∧ (∀ v, F4 v W → F4 v w) ∧ (∀ v, F5 v W → F5 v w) ∧ (∀ v, F6 v W → F6 v w) ∧ (∀ v, F8 v W → F8 v w) ∧ (∀ v, F9 v W → F9 v w) ∧ (∀ v, F11 v W → F11 v w) ∧ (∀ v, F12 v W → F12 v w) ∧ (∀ v, F13 v W → F13 v w) ∧ (∀ v, F15 v W → F15 v w) ∧ (∀ v, F16 v W → F16 v w) ∧ (∀ v, F17 v W → F17 v w) ∧ (∀ v, F19 v W → F19 v w) ∧ (∀ v, F20 v W → F20 v w) ∧ (∀ v, F21 v W → F21 v w) ∧ (∀ v, F23 v W → F23 v w) ∧ True)
    )
    (o25 : ∀ k : Nat, 4 ≤ k → k ≤ 5 → ∀ W, S { w with drawn := w.drawn + 1 } W → C k W → 
      NilCheckP it0 fun t83 =>
      (E W W ∧ C k W ∧ F25 t83 W)
    )
    (o26 : ∀ t83 : Value, ∀ W, S { w with drawn := w.drawn + 1 } W → C 4 W → F25 t83 W → 
      Does Try.prog (Instr.fieldAt 52 t83 0) W fun t84 w =>
      (E W w ∧ C 4 w ∧ F26 t84 w)
    )
    (o27 : ∀ t84 t67 : Value, ∀ W, S { w with drawn := w.drawn + 1 } W → C 4 W → F26 t84 W → F9 t67 W → 
      Does Try.prog (Instr.storeAt 23 t84 t67) W fun _ w =>
      (S W w ∧ C 5 w ∧ True ∧ (∀ v, F4 v W → F4 v w) ∧ (∀ v, F5 v W → F5 v w) ∧ (∀ v, F6 v W → F6 v w) ∧ (∀ v, F8 v W → F8 v w) ∧ (∀ v, F9 v W → F9 v w) ∧ (∀ v, F11 v W → F11 v w) ∧ (∀ v, F12 v W → F12 v w) ∧ (∀ v, F13 v W → F13 v w) ∧ (∀ v, F15 v W → F15 v w) ∧ (∀ v, F16 v W → F16 v w) ∧ (∀ v, F17 v W → F17 v w) ∧ (∀ v, F19 v W → F19 v w) ∧ (∀ v, F20 v W → F20 v w) ∧ (∀ v, F21 v W → F21 v w) ∧ (∀ v, F23 v W → F23 v w) ∧ (∀ v, F24 v W → F24 v w) ∧ (∀ v, F25 v W → F25 v w) ∧ (∀ v, F26 v W → F26 v w) ∧ True)
    )
    (o28 : ∀ k : Nat, 5 ≤ k → k ≤ 6 → ∀ W, S { w with drawn := w.drawn + 1 } W → C k W → 
      NilCheckP it0 fun t85 =>
      (E W W ∧ C k W ∧ F28 t85 W)
    )
    (o29 : ∀ t85 : Value, ∀ W, S { w with drawn := w.drawn + 1 } W → C 5 W → F28 t85 W → 
      Does Try.prog (Instr.fieldAt 52 t85 1) W fun t86 w =>
      (E W w ∧ C 5 w ∧ F29 t86 w)
    )
    (o30 : ∀ t86 t75 : Value, ∀ W, S { w with drawn := w.drawn + 1 } W → C 5 W → F29 t86 W → F17 t75 W → 
      Does Try.prog (Instr.storeAt 49 t86 t75) W fun _ w =>
      (S W w ∧ C 6 w ∧ True ∧ (∀ v, F4 v W → F4 v w) ∧ (∀ v, F5 v W → F5 v w) ∧ (∀ v, F6 v W → F6 v w) ∧ (∀ v, F8 v W → F8 v w) ∧ (∀ v, F9 v W → F9 v w) ∧ (∀ v, F11 v W → F11 v w) ∧ (∀ v, F12 v W → F12 v w) ∧ (∀ v, F13 v W → F13 v w) ∧ (∀ v, F15 v W → F15 v w) ∧ (∀ v, F16 v W → F16 v w) ∧ (∀ v, F17 v W → F17 v w) ∧ (∀ v, F19 v W → F19 v w) ∧ (∀ v, F20 v W → F20 v w) ∧ (∀ v, F21 v W → F21 v w) ∧ (∀ v, F23 v W → F23 v w) ∧ (∀ v, F24 v W → F24 v w) ∧ (∀ v, F25 v W → F25 v w) ∧ (∀ v, F26 v W → F26 v w) ∧ (∀ v, F28 v W → F28 v w) ∧ (∀ v, F29 v W → F29 v w) ∧ True)
    )
    (o31 : ∀ k : Nat, 6 ≤ k → k ≤ 7 → ∀ W, S { w with drawn := w.drawn + 1 } W → C k W → 
      NilCheckP it0 fun t87 =>
      (E W W ∧ C k W ∧ F31 t87 W)
    )
    (o32 : ∀ t87 : Value, ∀ W, S { w with drawn := w.drawn + 1 } W → C 6 W → F31 t87 W → 
      Does Try.prog (Instr.fieldAt 52 t87 2) W fun t88 w =>
      (E W w ∧ C 6 w ∧ F32 t88 w)
    )
    (o33 : ∀ t88 t82 : Value, ∀ W, S { w with drawn := w.drawn + 1 } W → C 6 W → F32 t88 W → F24 t82 W → 
      Does Try.prog (Instr.storeAt 50 t88 t82) W fun _ w =>
      (S W w ∧ C 7 w ∧ True ∧ (∀ v, F4 v W → F4 v w) ∧ (∀ v, F5 v W → F5 v w) ∧ (∀ v, F6 v W → F6 v w) ∧ (∀ v, F8 v W → F8 v w) ∧ (∀ v, F9 v W → F9 v w) ∧ (∀ v, F11 v W → F11 v w) ∧ (∀ v, F12 v W → F12 v w) ∧ (∀ v, F13 v W → F13 v w) ∧ (∀ v, F15 v W → F15 v w) ∧ (∀ v, F16 v W → F16 v w) ∧ (∀ v, F17 v W → F17 v w) ∧ (∀ v, F19 v W → F19 v w) ∧ (∀ v, F20 v W → F20 v w) ∧ (∀ v, F21 v W → F21 v w) ∧ (∀ v, F23 v W → F23 v w) ∧ (∀ v, F24 v W → F24 v w) ∧ (∀ v, F25 v W → F25 v w) ∧ (∀ v, F26 v W → F26 v w) ∧ (∀ v, F28 v W → F28 v w) ∧ (∀ v, F29 v W → F29 v w) ∧ (∀ v, F31 v W → F31 v w) ∧ (∀ v, F32 v W → F32 v w) ∧ True)
    )
    (fin : ∀ W, S { w with drawn := w.drawn + 1 } W → C 7 W → J  W) :
    DrawP Try.prog 89 (opsOf Try.f23 19) [0, 1, 2, 3] [it0, io1, iA2, ir3] [] J w := by
  have hall : ∀ _ : Nat → Value,
    (∀ k : Nat, 0 ≤ k → k ≤ 4 → ∀ W, S { w with drawn := w.drawn + 1 } W → C k W → 
      (E W W ∧ C k W ∧ it0 = it0)
    ) ∧
    (∀ k : Nat, 0 ≤ k → k ≤ 5 → ∀ W, S { w with drawn := w.drawn + 1 } W → C k W → 
      (E W W ∧ C k W ∧ it0 = it0)
    ) ∧
    (∀ k : Nat, 0 ≤ k → k ≤ 6 → ∀ W, S { w with drawn := w.drawn + 1 } W → C k W → 
      (E W W ∧ C k W ∧ it0 = it0)
    ) ∧
    (∀ k : Nat, 0 ≤ k → k ≤ 4 → ∀ W, S { w with drawn := w.drawn + 1 } W → C k W → 
      (E W W ∧ C k W ∧ it0 = it0)
    ) ∧
    (∀ t61 : Value, ∀ k : Nat, 0 ≤ k → k ≤ 4 → ∀ W, S { w with drawn := w.drawn + 1 } W → C k W → t61 = it0 → 
      NilCheckP t61 fun t62 =>
      (E W W ∧ C k W ∧ F4 t62 W)
    ) ∧
    (∀ t62 : Value, ∀ k : Nat, 0 ≤ k → k ≤ 4 → ∀ W, S { w with drawn := w.drawn + 1 } W → C k W → F4 t62 W → 
      Does Try.prog (Instr.fieldAt 52 t62 0) W fun t63 w =>
      (E W w ∧ C k w ∧ F5 t63 w)
    ) ∧
    (∀ t63 : Value, ∀ k : Nat, 0 ≤ k → k ≤ 0 → ∀ W, S { w with drawn := w.drawn + 1 } W → C k W → F5 t63 W → 
      Does Try.prog (Instr.loadAt 23 t63) W fun t64 w =>
      (E W w ∧ C k w ∧ F6 t64 w)
    ) ∧
    (∀ k : Nat, 0 ≤ k → k ≤ 4 → ∀ W, S { w with drawn := w.drawn + 1 } W → C k W → 
      (E W W ∧ C k W ∧ io1 = io1)
    ) ∧
    (∀ t65 : Value, ∀ k : Nat, 0 ≤ k → k ≤ 0 → ∀ W, S { w with drawn := w.drawn + 1 } W → C k W → t65 = io1 → 
      Does Try.prog (Instr.buildSlice 23 1 #[(0, t65)]) W fun t66 w =>
      (E W w ∧ C k w ∧ F8 t66 w)
    ) ∧
    (∀ t64 t66 : Value, ∀ W, S { w with drawn := w.drawn + 1 } W → C 0 W → F6 t64 W → F8 t66 W → 
      Does Try.prog (Builtin.append_ #[23, 23] 23 #[t64, t66]) W fun t67 w =>
      (S W w ∧ C 1 w ∧ F9 t67 w ∧ (∀ v : Value, v = it0 → v = it0) ∧ (∀ v : Value, v = it0 → v = it0) ∧ (∀ v : Value, v = it0 → v = it0) ∧ (∀ v : Value, v = it0 → v = it0) ∧ (∀ v : Value, F4 v W → F4 v w) ∧ (∀ v : Value, F5 v W → F5 v w) ∧ (∀ v : Value, F6 v W → F6 v w) ∧ (∀ v : Value, v = io1 → v = io1) ∧ (∀ v : Value, F8 v W → F8 v w) ∧ (∀ v : Value, v = it0 → v = it0) ∧ (∀ v : Value, F11 v W → F11 v w) ∧ (∀ v : Value, F12 v W → F12 v w) ∧ (∀ v : Value, F13 v W → F13 v w) ∧ (∀ v : Value, v = iA2 → v = iA2) ∧ (∀ v : Value, v = it0 → v = it0) ∧ (∀ v : Value, F19 v W → F19 v w) ∧ (∀ v : Value, F20 v W → F20 v w) ∧ (∀ v : Value, F21 v W → F21 v w) ∧ (∀ v : Value, v = ir3 → v = ir3) ∧ (∀ v : Value, F23 v W → F23 v w) ∧ True)
    ) ∧
    (∀ k : Nat, 0 ≤ k → k ≤ 5 → ∀ W, S { w with drawn := w.drawn + 1 } W → C k W → 
      (E W W ∧ C k W ∧ it0 = it0)
    ) ∧
    (∀ t68 : Value, ∀ k : Nat, 0 ≤ k → k ≤ 5 → ∀ W, S { w with drawn := w.drawn + 1 } W → C k W → t68 = it0 → 
      NilCheckP t68 fun t69 =>
      (E W W ∧ C k W ∧ F11 t69 W)
    ) ∧
    (∀ t69 : Value, ∀ k : Nat, 0 ≤ k → k ≤ 5 → ∀ W, S { w with drawn := w.drawn + 1 } W → C k W → F11 t69 W → 
      Does Try.prog (Instr.fieldAt 52 t69 1) W fun t70 w =>
      (E W w ∧ C k w ∧ F12 t70 w)
    ) ∧
    (∀ t70 : Value, ∀ k : Nat, 0 ≤ k → k ≤ 2 → ∀ W, S { w with drawn := w.drawn + 1 } W → C k W → F12 t70 W → 
      Does Try.prog (Instr.loadAt 49 t70) W fun t71 w =>
      (E W w ∧ C k w ∧ F13 t71 w)
    ) ∧
    (∀ k : Nat, 0 ≤ k → k ≤ 1 → ∀ W, S { w with drawn := w.drawn + 1 } W → C k W → 
      (E W W ∧ C k W ∧ iA2 = iA2)
    ) ∧
    (∀ t72 : Value, ∀ W, S { w with drawn := w.drawn + 1 } W → C 1 W → t72 = iA2 → 
      Call Try.prog 13 #[t72] W fun t73 w =>
      (S W w ∧ C 2 w ∧ F15 t73 w ∧ (∀ v : Value, v = it0 → v = it0) ∧ (∀ v : Value, v = it0 → v = it0) ∧ (∀ v : Value, v = it0 → v = it0) ∧ (∀ v : Value, v = it0 → v = it0) ∧ (∀ v : Value, F4 v W → F4 v w) ∧ (∀ v : Value, F5 v W → F5 v w) ∧ (∀ v : Value, F6 v W → F6 v w) ∧ (∀ v : Value, v = io1 → v = io1) ∧ (∀ v : Value, F8 v W → F8 v w) ∧ (∀ v : Value, F9 v W → F9 v w) ∧ (∀ v : Value, v = it0 → v = it0) ∧ (∀ v : Value, F11 v W → F11 v w) ∧ (∀ v : Value, F12 v W → F12 v w) ∧ (∀ v : Value, F13 v W → F13 v w) ∧ (∀ v : Value, v = iA2 → v = iA2) ∧ (∀ v : Value, v = it0 → v = it0) ∧ (∀ v : Value, F19 v W → F19 v w) ∧ (∀ v : Value, F20 v W → F20 v w) ∧ (∀ v : Value, F21 v W → F21 v w) ∧ (∀ v : Value, v = ir3 → v = ir3) ∧ (∀ v : Value, F23 v W → F23 v w) ∧ True)
    ) ∧
    (∀ t73 : Value, ∀ k : Nat, 2 ≤ k → k ≤ 2 → ∀ W, S { w with drawn := w.drawn + 1 } W → C k W → F15 t73 W → 
      Does Try.prog (Instr.buildSlice 49 1 #[(0, t73)]) W fun t74 w =>
      (E W w ∧ C k w ∧ F16 t74 w)
    ) ∧
    (∀ t71 t74 : Value, ∀ W, S { w with drawn := w.drawn + 1 } W → C 2 W → F13 t71 W → F16 t74 W → 
      Does Try.prog (Builtin.append_ #[49, 49] 49 #[t71, t74]) W fun t75 w =>
      (S W w ∧ C 3 w ∧ F17 t75 w ∧ (∀ v : Value, v = it0 → v = it0) ∧ (∀ v : Value, v = it0 → v = it0) ∧ (∀ v : Value, v = it0 → v = it0) ∧ (∀ v : Value, v = it0 → v = it0) ∧ (∀ v : Value, F4 v W → F4 v w) ∧ (∀ v : Value, F5 v W → F5 v w) ∧ (∀ v : Value, F6 v W → F6 v w) ∧ (∀ v : Value, v = io1 → v = io1) ∧ (∀ v : Value, F8 v W → F8 v w) ∧ (∀ v : Value, F9 v W → F9 v w) ∧ (∀ v : Value, v = it0 → v = it0) ∧ (∀ v : Value, F11 v W → F11 v w) ∧ (∀ v : Value, F12 v W → F12 v w) ∧ (∀ v : Value, F13 v W → F13 v w) ∧ (∀ v : Value, v = iA2 → v = iA2) ∧ (∀ v : Value, F15 v W → F15 v w) ∧ (∀ v : Value, F16 v W → F16 v w) ∧ (∀ v : Value, v = it0 → v = it0) ∧ (∀ v : Value, F19 v W → F19 v w) ∧ (∀ v : Value, F20 v W → F20 v w) ∧ (∀ v : Value, F21 v W → F21 v w) ∧ (∀ v : Value, v = ir3 → v = ir3) ∧ (∀ v : Value, F23 v W → F23 v w) ∧ True)
    ) ∧
    (∀ k : Nat, 0 ≤ k → k ≤ 6 → ∀ W, S { w with drawn := w.drawn + 1 } W → C k W → 
      (E W W ∧ C k W ∧ it0 = it0)
    ) ∧
    (∀ t76 : Value, ∀ k : Nat, 0 ≤ k → k ≤ 6 → ∀ W, S { w with drawn := w.drawn + 1 } W → C k W → t76 = it0 → 
      NilCheckP t76 fun t77 =>
      (E W W ∧ C k W ∧ F19 t77 W)
    ) ∧
    (∀ t77 : Value, ∀ k : Nat, 0 ≤ k → k ≤ 6 → ∀ W, S { w with drawn := w.drawn + 1 } W → C k W → F19 t77 W → 
      Does Try.prog (Instr.fieldAt 52 t77 2) W fun t78 w =>
      (E W w ∧ C k w ∧ F20 t78 w)
    ) ∧
    (∀ t78 : Value, ∀ k : Nat, 0 ≤ k → k ≤ 3 → ∀ W, S { w with drawn := w.drawn + 1 } W → C k W → F20 t78 W → 
      Does Try.prog (Instr.loadAt 50 t78) W fun t79 w =>
      (E W w ∧ C k w ∧ F21 t79 w)
    ) ∧
    (∀ k : Nat, 0 ≤ k → k ≤ 6 → ∀ W, S { w with drawn := w.drawn + 1 } W → C k W → 
      (E W W ∧ C k W ∧ ir3 = ir3)
    ) ∧
    (∀ t80 : Value, ∀ k : Nat, 0 ≤ k → k ≤ 3 → ∀ W, S { w with drawn := w.drawn + 1 } W → C k W → t80 = ir3 → 
      Does Try.prog (Instr.buildSlice 50 1 #[(0, t80)]) W fun t81 w =>
      (E W w ∧ C k w ∧ F23 t81 w)
    ) ∧
    (∀ t79 t81 : Value, ∀ W, S { w with drawn := w.drawn + 1 } W → C 3 W → F21 t79 W → F23 t81 W → 
      Does Try.prog (Builtin.append_ #[50, 50] 50 #[t79, t81]) W fun t82 w =>
      (S W w ∧ C 4 w ∧ F24 t82 w ∧ (∀ v : Value, v = it0 → v = it0) ∧ (∀ v : Value, v = it0 → v = it0) ∧ (∀ v : Value, v = it0 → v = it0) ∧ (∀ v : Value, v = it0 → v = it0) ∧ (∀ v : Value, F4 v W → F4 v w) ∧ (∀ v : Value, F5 v W → F5 v w) ∧ (∀ v : Value, F6 v W → F6 v w) ∧ (∀ v : Value, v = io1 → v = io1) ∧ (∀ v : Value, F8 v W → F8 v w) ∧ (∀ v : Value, F9 v W → F9 v w) ∧ (∀ v : Value, v = it0 → v = it0) ∧ (∀ v : Value, F11 v W → F11 v w) ∧ (∀ v : Value, F12 v W → F12 v w) ∧ (∀ v : Value, F13 v W → F13 v w) ∧ (∀ v : Value, v = iA2 → v = iA2) ∧ (∀ v : Value, F15 v W → F15 v w) ∧ (∀ v : Value, F16 v W → F16 v w) ∧ (∀ v : Value, F17 v W → F17 v w) ∧ (∀ v : Value, v = it0 → v = it0) ∧ (∀ v : Value, F19 v W → F19 v w) ∧ (∀ v : Value, F20 v W → F20 v w) ∧ (∀ v : Value, F21 v W → F21 v w) ∧ (∀ v : Value, v = ir3 → v = ir3) ∧ (∀ v : Value, F23 v W → F23 v w) ∧ True)
    ) ∧
    (∀ t58 : Value, ∀ k : Nat, 4 ≤ k → k ≤ 5 → ∀ W, S { w with drawn := w.drawn + 1 } W → C k W → t58 = it0 → 
      NilCheckP t58 fun t83 =>
      (E W W ∧ C k W ∧ F25 t83 W)
    ) ∧
    (∀ t83 : Value, ∀ k : Nat, 4 ≤ k → k ≤ 4 → ∀ W, S { w with drawn := w.drawn + 1 } W → C k W → F25 t83 W → 
      Does Try.prog (Instr.fieldAt 52 t83 0) W fun t84 w =>
      (E W w ∧ C k w ∧ F26 t84 w)
    ) ∧
    (∀ t84 t67 : Value, ∀ W, S { w with drawn := w.drawn + 1 } W → C 4 W → F26 t84 W → F9 t67 W → 
      Does Try.prog (Instr.storeAt 23 t84 t67) W fun _ w =>
      (S W w ∧ C 5 w ∧ True ∧ (∀ v : Value, v = it0 → v = it0) ∧ (∀ v : Value, v = it0 → v = it0) ∧ (∀ v : Value, v = it0 → v = it0) ∧ (∀ v : Value, v = it0 → v = it0) ∧ (∀ v : Value, F4 v W → F4 v w) ∧ (∀ v : Value, F5 v W → F5 v w) ∧ (∀ v : Value, F6 v W → F6 v w) ∧ (∀ v : Value, v = io1 → v = io1) ∧ (∀ v : Value, F8 v W → F8 v w) ∧ (∀ v : Value, F9 v W → F9 v w) ∧ (∀ v : Value, v = it0 → v = it0) ∧ (∀ v : Value, F11 v W → F11 v w) ∧ (∀ v : Value, F12 v W → F12 v w) ∧ (∀ v : Value, F13 v W → F13 v w) ∧ (∀ v : Value, v = iA2 → v = iA2) ∧ (∀ v : Value, F15 v W → F15 v w) ∧ (∀ v : Value, F16 v W → F16 v w) ∧ (∀ v : Value, F17 v W → F17 v w) ∧ (∀ v : Value, v = it0 → v = it0) ∧ (∀ v : Value, F19 v W → F19 v w) ∧ (∀ v : Value, F20 v W → F20 v w) ∧ (∀ v : Value, F21 v W → F21 v w) ∧ (∀ v : Value, v = ir3 → v = ir3) ∧ (∀ v : Value, F23 v W → F23 v w) ∧ (∀ v : Value, F24 v W → F24 v w) ∧ (∀ v : Value, F25 v W → F25 v w) ∧ (∀ v : Value, F26 v W → F26 v w) ∧ True)
    ) ∧
    (∀ t59 : Value, ∀ k : Nat, 5 ≤ k → k ≤ 6 → ∀ W, S { w with drawn := w.drawn + 1 } W → C k W → t59 = it0 → 
      NilCheckP t59 fun t85 =>
      (E W W ∧ C k W ∧ F28 t85 W)
    ) ∧
    (∀ t85 : Value, ∀ k : Nat, 5 ≤ k → k ≤ 5 → ∀ W, S { w with drawn := w.drawn + 1 } W → C k W → F28 t85 W → 
      Does Try.prog (Instr.fieldAt 52 t85 1) W fun t86 w =>
      (E W w ∧ C k w ∧ F29 t86 w)
    ) ∧
    (∀ t86 t75 : Value, ∀ W, S { w with drawn := w.drawn + 1 } W → C 5 W → F29 t86 W → F17 t75 W → 
      Does Try.prog (Instr.storeAt 49 t86 t75) W fun _ w =>
      (S W w ∧ C 6 w ∧ True ∧ (∀ v : Value, v = it0 → v = it0) ∧ (∀ v : Value, v = it0 → v = it0) ∧ (∀ v : Value, v = it0 → v = it0) ∧ (∀ v : Value, v = it0 → v = it0) ∧ (∀ v : Value, F4 v W → F4 v w) ∧ (∀ v : Value, F5 v W → F5 v w) ∧ (∀ v : Value, F6 v W → F6 v w) ∧ (∀ v : Value, v = io1 → v = io1) ∧ (∀ v : Value, F8 v W → F8 v w) ∧ (∀ v : Value, F9 v W → F9 v w) ∧ (∀ v : Value, v = it0 → v = it0) ∧ (∀ v : Value, F11 v W → F11 v w) ∧ (∀ v : Value, F12 v W → F12 v w) ∧ (∀ v : Value, F13 v W → F13 v w) ∧ (∀ v : Value, v = iA2 → v = iA2) ∧ (∀ v : Value, F15 v W → F15 v w) ∧ (∀ v : Value, F16 v W → F16 v w) ∧ (∀ v : Value, F17 v W → F17 v w) ∧ (∀ v : Value, v = it0 → v = it0) ∧ (∀ v : Value, F19 v W → F19 v w) ∧ (∀ v : Value, F20 v W → F20 v w) ∧ (∀ v : Value, F21 v W → F21 v w) ∧ (∀ v : Value, v = ir3 → v = ir3) ∧ (∀ v : Value, F23 v W → F23 v w) ∧ (∀ v : Value, F24 v W → F24 v w) ∧ (∀ v : Value, F25 v W → F25 v w) ∧ (∀ v : Value, F26 v W → F26 v w) ∧ (∀ v : Value, True → True) ∧ (∀ v : Value, F28 v W → F28 v w) ∧ (∀ v : Value, F29 v W → F29 v w) ∧ True)
    ) ∧
    (∀ t60 : Value, ∀ k : Nat, 6 ≤ k → k ≤ 7 → ∀ W, S { w with drawn := w.drawn + 1 } W → C k W → t60 = it0 → 
      NilCheckP t60 fun t87 =>
      (E W W ∧ C k W ∧ F31 t87 W)
    ) ∧
    (∀ t87 : Value, ∀ k : Nat, 6 ≤ k → k ≤ 6 → ∀ W, S { w with drawn := w.drawn + 1 } W → C k W → F31 t87 W → 
      Does Try.prog (Instr.fieldAt 52 t87 2) W fun t88 w =>
      (E W w ∧ C k w ∧ F32 t88 w)
    ) ∧
    (∀ t88 t82 : Value, ∀ W, S { w with drawn := w.drawn + 1 } W → C 6 W → F32 t88 W → F24 t82 W → 
      Does Try.prog (Instr.storeAt 50 t88 t82) W fun _ w =>
      (S W w ∧ C 7 w ∧ True ∧ (∀ v : Value, v = it0 → v = it0) ∧ (∀ v : Value, v = it0 → v = it0) ∧ (∀ v : Value, v = it0 → v = it0) ∧ (∀ v : Value, v = it0 → v = it0) ∧ (∀ v : Value, F4 v W → F4 v w) ∧ (∀ v : Value, F5 v W → F5 v w) ∧ (∀ v : Value, F6 v W → F6 v w) ∧ (∀ v : Value, v = io1 → v = io1) ∧ (∀ v : Value, F8 v W → F8 v w) ∧ (∀ v : Value, F9 v W → F9 v w) ∧ (∀ v : Value, v = it0 → v = it0) ∧ (∀ v : Value, F11 v W → F11 v w) ∧ (∀ v : Value, F12 v W → F12 v w) ∧ (∀ v : Value, F13 v W → F13 v w) ∧ (∀ v : Value, v = iA2 → v = iA2) ∧ (∀ v : Value, F15 v W → F15 v w) ∧ (∀ v : Value, F16 v W → F16 v w) ∧ (∀ v : Value, F17 v W → F17 v w) ∧ (∀ v : Value, v = it0 → v = it0) ∧ (∀ v : Value, F19 v W → F19 v w) ∧ (∀ v : Value, F20 v W → F20 v w) ∧ (∀ v : Value, F21 v W → F21 v w) ∧ (∀ v : Value, v = ir3 → v = ir3) ∧ (∀ v : Value, F23 v W → F23 v w) ∧ (∀ v : Value, F24 v W → F24 v w) ∧ (∀ v : Value, F25 v W → F25 v w) ∧ (∀ v : Value, F26 v W → F26 v w) ∧ (∀ v : Value, True → True) ∧ (∀ v : Value, F28 v W → F28 v w) ∧ (∀ v : Value, F29 v W → F29 v w) ∧ (∀ v : Value, True → True) ∧ (∀ v : Value, F31 v W → F31 v w) ∧ (∀ v : Value, F32 v W → F32 v w) ∧ True)
    ) ∧ True := fun _ => ⟨
    fun  k hk1 hk2 W hS hC  => ⟨he W, hC, by first | rfl | simp_all⟩,
    fun  k hk1 hk2 W hS hC  => ⟨he W, hC, by first | rfl | simp_all⟩,
    fun  k hk1 hk2 W hS hC  => ⟨he W, hC, by first | rfl | simp_all⟩,
    fun  k hk1 hk2 W hS hC  => ⟨he W, hC, by first | rfl | simp_all⟩,
    fun t61 k hk1 hk2 W hS hC ht61 => (by subst ht61; exact o4  k hk1 hk2 W hS hC ),
    fun t62 k hk1 hk2 W hS hC ht62 => (by exact o5 t62 k hk1 hk2 W hS hC ht62),
    fun t63 k hk1 hk2 W hS hC ht63 => (by obtain rfl : k = 0 := (by omega); exact o6 t63 W hS hC ht63),
    fun  k hk1 hk2 W hS hC  => ⟨he W, hC, by first | rfl | simp_all⟩,
    fun t65 k hk1 hk2 W hS hC ht65 => (by obtain rfl : k = 0 := (by omega); subst ht65; exact o8  W hS hC ),
    fun t64 t66 W hS hC ht64 ht66 => (by exact Does.mono (o9 t64 t66 W hS hC ht64 ht66) fun _ _ h => ⟨h.1, h.2.1, h.2.2.1, fun _ h => h, fun _ h => h, fun _ h => h, fun _ h => h, h.2.2.2.1, h.2.2.2.2.1, h.2.2.2.2.2.1, fun _ h => h, h.2.2.2.2.2.2.1, fun _ h => h, h.2.2.2.2.2.2.2.1, h.2.2.2.2.2.2.2.2.1, h.2.2.2.2.2.2.2.2.2.1, fun _ h => h, fun _ h => h, h.2.2.2.2.2.2.2.2.2.2.1, h.2.2.2.2.2.2.2.2.2.2.2.1, h.2.2.2.2.2.2.2.2.2.2.2.2.1, fun _ h => h, h.2.2.2.2.2.2.2.2.2.2.2.2.2.1, trivial⟩),
    fun  k hk1 hk2 W hS hC  => ⟨he W, hC, by first | rfl | simp_all⟩,
    fun t68 k hk1 hk2 W hS hC ht68 => (by subst ht68; exact o11  k hk1 hk2 W hS hC ),
    fun t69 k hk1 hk2 W hS hC ht69 => (by exact o12 t69 k hk1 hk2 W hS hC ht69),
    fun t70 k hk1 hk2 W hS hC ht70 => (by exact o13 t70 k hk1 hk2 W hS hC ht70),
    fun  k hk1 hk2 W hS hC  => ⟨he W, hC, by first | rfl | simp_all⟩,
    fun t72 W hS hC ht72 => (by subst ht72; exact Call.mono (o15  W hS hC ) fun _ _ h => ⟨h.1, h.2.1, h.2.2.1, fun _ h => h, fun _ h => h, fun _ h => h, fun _ h => h, h.2.2.2.1, h.2.2.2.2.1, h.2.2.2.2.2.1, fun _ h => h, h.2.2.2.2.2.2.1, h.2.2.2.2.2.2.2.1, fun _ h => h, h.2.2.2.2.2.2.2.2.1, h.2.2.2.2.2.2.2.2.2.1, h.2.2.2.2.2.2.2.2.2.2.1, fun _ h => h, fun _ h => h, h.2.2.2.2.2.2.2.2.2.2.2.1, h.2.2.2.2.2.2.2.2.2.2.2.2.1, h.2.2.2.2.2.2.2.2.2.2.2.2.2.1, fun _ h => h, h.2.2.2.2.2.2.2.2.2.2.2.2.2.2.1, trivial⟩),
    fun t73 k hk1 hk2 W hS hC ht73 => (by obtain rfl : k = 2 := (by omega); exact o16 t73 W hS hC ht73),
    fun t71 t74 W hS hC ht71 ht74 => (by exact Does.mono (o17 t71 t74 W hS hC ht71 ht74) fun _ _ h => ⟨h.1, h.2.1, h.2.2.1, fun _ h => h, fun _ h => h, fun _ h => h, fun _ h => h, h.2.2.2.1, h.2.2.2.2.1, h.2.2.2.2.2.1, fun _ h => h, h.2.2.2.2.2.2.1, h.2.2.2.2.2.2.2.1, fun _ h => h, h.2.2.2.2.2.2.2.2.1, h.2.2.2.2.2.2.2.2.2.1, h.2.2.2.2.2.2.2.2.2.2.1, fun _ h => h, h.2.2.2.2.2.2.2.2.2.2.2.1, h.2.2.2.2.2.2.2.2.2.2.2.2.1, fun _ h => h, h.2.2.2.2.2.2.2.2.2.2.2.2.2.1, h.2.2.2.2.2.2.2.2.2.2.2.2.2.2.1, h.2.2.2.2.2.2.2.2.2.2.2.2.2.2.2.1, fun _ h => h, h.2.2.2.2.2.2.2.2.2.2.2.2.2.2.2.2.1, trivial⟩),
    fun  k hk1 hk2 W hS hC  => ⟨he W, hC, by first | rfl | simp_all⟩,
    fun t76 k hk1 hk2 W hS hC ht76 => (by subst ht76; exact o19  k hk1 hk2 W hS hC ),
    fun t77 k hk1 hk2 W hS hC ht77 => (by exact o20 t77 k hk1 hk2 W hS hC ht77),
    fun t78 k hk1 hk2 W hS hC ht78 => (by exact o21 t78 k hk1 hk2 W hS hC ht78),
    fun  k hk1 hk2 W hS hC  => ⟨he W, hC, by first | rfl | simp_all⟩,
    fun t80 k hk1 hk2 W hS hC ht80 => (by subst ht80; exact o23  k hk1 hk2 W hS hC ),
    fun t79 t81 W hS hC ht79 ht81 => (by exact Does.mono (o24 t79 t81 W hS hC ht79 ht81) fun _ _ h => ⟨h.1, h.2.1, h.2.2.1, fun _ h => h, fun _ h => h, fun _ h => h, fun _ h => h, h.2.2.2.1, h.2.2.2.2.1, h.2.2.2.2.2.1, fun _ h => h, h.2.2.2.2.2.2.1, h.2.2.2.2.2.2.2.1, fun _ h => h, h.2.2.2.2.2.2.2.2.1, h.2.2.2.2.2.2.2.2.2.1, h.2.2.2.2.2.2.2.2.2.2.1, fun _ h => h, h.2.2.2.2.2.2.2.2.2.2.2.1, h.2.2.2.2.2.2.2.2.2.2.2.2.1, h.2.2.2.2.2.2.2.2.2.2.2.2.2.1, fun _ h => h, h.2.2.2.2.2.2.2.2.2.2.2.2.2.2.1, h.2.2.2.2.2.2.2.2.2.2.2.2.2.2.2.1, h.2.2.2.2.2.2.2.2.2.2.2.2.2.2.2.2.1, fun _ h => h, h.2.2.2.2.2.2.2.2.2.2.2.2.2.2.2.2.2.1, trivial⟩),
    fun t58 k hk1 hk2 W hS hC ht58 => (by subst ht58; exact o25  k hk1 hk2 W hS hC ),
    fun t83 k hk1 hk2 W hS hC ht83 => (by obtain rfl : k = 4 := (by omega); exact o26 t83 W hS hC ht83),
    fun t84 t67 W hS hC ht84 ht67 => (by exact Does.mono (o27 t84 t67 W hS hC ht84 ht67) fun _ _ h => ⟨h.1, h.2.1, h.2.2.1, fun _ h => h, fun _ h => h, fun _ h => h, fun _ h => h, h.2.2.2.1, h.2.2.2.2.1, h.2.2.2.2.2.1, fun _ h => h, h.2.2.2.2.2.2.1, h.2.2.2.2.2.2.2.1, fun _ h => h, h.2.2.2.2.2.2.2.2.1, h.2.2.2.2.2.2.2.2.2.1, h.2.2.2.2.2.2.2.2.2.2.1, fun _ h => h, h.2.2.2.2.2.2.2.2.2.2.2.1, h.2.2.2.2.2.2.2.2.2.2.2.2.1, h.2.2.2.2.2.2.2.2.2.2.2.2.2.1, fun _ h => h, h.2.2.2.2.2.2.2.2.2.2.2.2.2.2.1, h.2.2.2.2.2.2.2.2.2.2.2.2.2.2.2.1, h.2.2.2.2.2.2.2.2.2.2.2.2.2.2.2.2.1, fun _ h => h, h.2.2.2.2.2.2.2.2.2.2.2.2.2.2.2.2.2.1, h.2.2.2.2.2.2.2.2.2.2.2.2.2.2.2.2.2.2.1, h.2.2.2.2.2.2.2.2.2.2.2.2.2.2.2.2.2.2.2.1, h.2.2.2.2.2.2.2.2.2.2.2.2.2.2.2.2.2.2.2.2.1, trivial⟩),
    fun t59 k hk1 hk2 W hS hC ht59 => (by subst ht59; exact o28  k hk1 hk2 W hS hC ),
    fun t85 k hk1 hk2 W hS hC ht85 => (by obtain rfl : k = 5 := (by omega); exact o29 t85 W hS hC ht85),
    fun t86 t75 W hS hC ht86 ht75 => (by exact Does.mono (o30 t86 t75 W hS hC ht86 ht75) fun _ _ h => ⟨h.1, h.2.1, h.2.2.1, fun _ h => h, fun _ h => h, fun _ h => h, fun _ h => h, h.2.2.2.1, h.2.2.2.2.1, h.2.2.2.2.2.1, fun _ h => h, h.2.2.2.2.2.2.1, h.2.2.2.2.2.2.2.1, fun _ h => h, h.2.2.2.2.2.2.2.2.1, h.2.2.2.2.2.2.2.2.2.1, h.2.2.2.2.2.2.2.2.2.2.1, fun _ h => h, h.2.2.2.2.2.2.2.2.2.2.2.1, h.2.2.2.2.2.2.2.2.2.2.2.2.1, h.2.2.2.2.2.2.2.2.2.2.2.2.2.1, fun _ h => h, h.2.2.2.2.2.2.2.2.2.2.2.2.2.2.1, h.2.2.2.2.2.2.2.2.2.2.2.2.2.2.2.1, h.2.2.2.2.2.2.2.2.2.2.2.2.2.2.2.2.1, fun _ h => h, h.2.2.2.2.2.2.2.2.2.2.2.2.2.2.2.2.2.1, h.2.2.2.2.2.2.2.2.2.2.2.2.2.2.2.2.2.2.1, h.2.2.2.2.2.2.2.2.2.2.2.2.2.2.2.2.2.2.2.1, h.2.2.2.2.2.2.2.2.2.2.2.2.2.2.2.2.2.2.2.2.1, fun _ h => h, h.2.2.2.2.2.2.2.2.2.2.2.2.2.2.2.2.2.2.2.2.2.1, h.2.2.2.2.2.2.2.2.2.2.2.2.2.2.2.2.2.2.2.2.2.2.1, trivial⟩),
    fun t60 k hk1 hk2 W hS hC ht60 => (by subst ht60; exact o31  k hk1 hk2 W hS hC ),
    fun t87 k hk1 hk2 W hS hC ht87 => (by obtain rfl : k = 6 := (by omega); exact o32 t87 W hS hC ht87),
    fun t88 t82 W hS hC ht88 ht82 => (by exact Does.mono (o33 t88 t82 W hS hC ht88 ht82) fun _ _ h => ⟨h.1, h.2.1, h.2.2.1, fun _ h => h, fun _ h => h, fun _ h => h, fun _ h => h, h.2.2.2.1, h.2.2.2.2.1, h.2.2.2.2.2.1, fun _ h => h, h.2.2.2.2.2.2.1, h.2.2.2.2.2.2.2.1, fun _ h => h, h.2.2.2.2.2.2.2.2.1, h.2.2.2.2.2.2.2.2.2.1, h.2.2.2.2.2.2.2.2.2.2.1, fun _ h => h, h.2.2.2.2.2.2.2.2.2.2.2.1, h.2.2.2.2.2.2.2.2.2.2.2.2.1, h.2.2.2.2.2.2.2.2.2.2.2.2.2.1, fun _ h => h, h.2.2.2.2.2.2.2.2.2.2.2.2.2.2.1, h.2.2.2.2.2.2.2.2.2.2.2.2.2.2.2.1, h.2.2.2.2.2.2.2.2.2.2.2.2.2.2.2.2.1, fun _ h => h, h.2.2.2.2.2.2.2.2.2.2.2.2.2.2.2.2.2.1, h.2.2.2.2.2.2.2.2.2.2.2.2.2.2.2.2.2.2.1, h.2.2.2.2.2.2.2.2.2.2.2.2.2.2.2.2.2.2.2.1, h.2.2.2.2.2.2.2.2.2.2.2.2.2.2.2.2.2.2.2.2.1, fun _ h => h, h.2.2.2.2.2.2.2.2.2.2.2.2.2.2.2.2.2.2.2.2.2.1, h.2.2.2.2.2.2.2.2.2.2.2.2.2.2.2.2.2.2.2.2.2.2.1, fun _ h => h, h.2.2.2.2.2.2.2.2.2.2.2.2.2.2.2.2.2.2.2.2.2.2.2.1, h.2.2.2.2.2.2.2.2.2.2.2.2.2.2.2.2.2.2.2.2.2.2.2.2.1, trivial⟩),
    trivial⟩
  have hst := lkF_st (S := E) (l := [(0, fun v _ => v = it0), (1, fun v _ => v = it0), (2, fun v _ => v = it0), (3, fun v _ => v = it0), (4, F4), (5, F5), (6, F6), (7, fun v _ => v = io1), (8, F8), (9, F9), (10, fun v _ => v = it0), (11, F11), (12, F12), (13, F13), (14, fun v _ => v = iA2), (15, F15), (16, F16), (17, F17), (18, fun v _ => v = it0), (19, F19), (20, F20), (21, F21), (22, fun v _ => v = ir3), (23, F23), (24, F24), (25, F25), (26, F26), (28, F28), (29, F29), (31, F31), (32, F32)]) (fun p hp => by
    simp only [List.mem_cons, List.not_mem_nil, or_false] at hp
    rcases hp with rfl | rfl | rfl | rfl | rfl | rfl | rfl | rfl | rfl | rfl | rfl | rfl | rfl | rfl | rfl | rfl | rfl | rfl | rfl | rfl | rfl | rfl | rfl | rfl | rfl | rfl | rfl | rfl | rfl | rfl | rfl
    · exact FSt.const _
    · exact FSt.const _
    · exact FSt.const _
    · exact FSt.const _
    · exact s4
    · exact s5
    · exact s6
    · exact FSt.const _
    · exact s8
    · exact s9
    · exact FSt.const _
    · exact s11
    · exact s12
    · exact s13
    · exact FSt.const _
    · exact s15
    · exact s16
    · exact s17
    · exact FSt.const _
    · exact s19
    · exact s20
    · exact s21
    · exact FSt.const _
    · exact s23
    · exact s24
    · exact s25
    · exact s26
    · exact s28
    · exact s29
    · exact s31
    · exact s32
    )
  have hf : ∀ W, S { w with drawn := w.drawn + 1 } W → C 7 W → J  W := fun  W hS hC  => (by exact fin  W hS hC )
  exact draw_phi (T := [9, 15, 17, 24, 27, 30, 33]) E S C (lkF [(0, fun v _ => v = it0), (1, fun v _ => v = it0), (2, fun v _ => v = it0), (3, fun v _ => v = it0), (4, F4), (5, F5), (6, F6), (7, fun v _ => v = io1), (8, F8), (9, F9), (10, fun v _ => v = it0), (11, F11), (12, F12), (13, F13), (14, fun v _ => v = iA2), (15, F15), (16, F16), (17, F17), (18, fun v _ => v = it0), (19, F19), (20, F20), (21, F21), (22, fun v _ => v = ir3), (23, F23), (24, F24), (25, F25), (26, F26), (28, F28), (29, F29), (31, F31), (32, F32)]) (by kernel_rfl) hr ht hES hst h0 (Eq.mp (by kernel_rfl) hall) (Eq.mp (by kernel_rfl) hf)

theorem q39_9 {ig0 il6 iout8 ii9 ik10 : Value} {w : World} {J : VF 1} (C : World → Prop) (hC : C { w with drawn := w.drawn + 1 })
    (h : ∀ _ : Nat → Value,
    Quiet Try.prog C (binOp .gtr 3 ik10 (Go.Value.int Go.IntKind.i64 0)) w fun t29 w =>
    JoinP 1 (fun j1 => GuardP t29 true (
      Quiet Try.prog C (binOp .sub 3 ik10 (Go.Value.int Go.IntKind.i64 1)) w fun t34 w =>
      Quiet Try.prog C (Instr.indexAt 23 iout8 t34) w fun t35 w =>
      Quiet Try.prog C (Instr.loadAt 9 t35) w fun t36 w =>
      QCall Try.prog C 29 #[ig0, t36] w fun t37 w =>
      Quiet Try.prog C (Instr.indexAt 23 il6 ii9) w fun t41 w =>
      Quiet Try.prog C (Instr.loadAt 9 t41) w fun t42 w =>
      QCall Try.prog C 29 #[ig0, t42] w fun t43 w =>
      Quiet Try.prog C (binOp .lss 3 t37 t43) w fun t44 w =>
      j1 t44 w
    ) (j1 undef w))
    (fun t44 w => ∀ _ : Nat → Value,
    PickP t29 t44 (Go.Value.bool false) fun t45 =>
    ∀ W, C W → J t45 W
    )
    ) : DrawP Try.prog 63 (opsOf Try.f39 9) [0, 6, 8, 9, 10] [ig0, il6, iout8, ii9, ik10] [45] J w :=
  draw_quiet C (by kernel_rfl) hC (Eq.mp (by kernel_rfl) h)

theorem p39_11 {il6 iout8 ii9 ik10 : Value} {w : World} {J : VF 1} (E S : World → World → Prop) (C : Nat → World → Prop) (F2 F5 F6 F7 F10 F11 F12 : Value → World → Prop) 
    (he : ∀ W, E W W) (hES : ∀ W W1, E W W1 → S W W1) (hr : ∀ W, S W W) (ht : ∀ a b c, S a b → S b c → S a c) (s2 : FSt E F2) (s5 : FSt E F5) (s6 : FSt E F6) (s7 : FSt E F7) (s10 : FSt E F10) (s11 : FSt E F11) (s12 : FSt E F12)
    (h0 : C 0 { w with drawn := w.drawn + 1 })
    (o2 : ∀ W, S { w with drawn := w.drawn + 1 } W → C 0 W → 
      Does Try.prog (Instr.sliceAt 23 iout8 none (some ik10) none) W fun t50 w =>
      (E W w ∧ C 0 w ∧ F2 t50 w)
    )
    (o5 : ∀ k : Nat, 0 ≤ k → k ≤ 1 → ∀ W, S { w with drawn := w.drawn + 1 } W → C k W → 
      Does Try.prog (Instr.indexAt 23 il6 ii9) W fun t53 w =>
      (E W w ∧ C k w ∧ F5 t53 w)
    )
    (o6 : ∀ t53 : Value, ∀ k : Nat, 0 ≤ k → k ≤ 1 → ∀ W, S { w with drawn := w.drawn + 1 } W → C k W → F5 t53 W → 
      Does Try.prog (Instr.loadAt 9 t53) W fun t54 w =>
      (E W w ∧ C k w ∧ F6 t54 w)
    )
    (o7 : ∀ t54 : Value, ∀ k : Nat, 0 ≤ k → k ≤ 1 → ∀ W, S { w with drawn := w.drawn + 1 } W → C k W → F6 t54 W → 
      Does Try.prog (Instr.buildSlice 23 1 #[(0, t54)]) W fun t55 w =>
      (E W w ∧ C k w ∧ F7 t55 w)
    )
    (o10 : ∀ k : Nat, 0 ≤ k → k ≤ 1 → ∀ W, S { w with drawn := w.drawn + 1 } W → C k W → 
      Does Try.prog (Instr.sliceAt 23 iout8 (some ik10) none none) W fun t58 w =>
      (E W w ∧ C k w ∧ F10 t58 w)
    )
    (o11 : ∀ t55 t58 : Value, ∀ W, S { w with drawn := w.drawn + 1 } W → C 0 W → F7 t55 W → F10 t58 W → 
      Does Try.prog (Builtin.append_ #[23, 23] 23 #[t55, t58]) W fun t59 w =>
      (E W w ∧ C 0 w ∧ F11 t59 w)
    )
    (o12 : ∀ t50 t59 : Value, ∀ W, S { w with drawn := w.drawn + 1 } W → C 0 W → F2 t50 W → F11 t59 W → 
      Does Try.prog (Builtin.append_ #[23, 23] 23 #[t50, t59]) W fun t60 w =>
      (S W w ∧ C 1 w ∧ F12 t60 w ∧ (∀ v, F2 v W → F2 v w) ∧ (∀ v, F5 v W → F5 v w) ∧ (∀ v, F6 v W → F6 v w) ∧ (∀ v, F7 v W → F7 v w) ∧ (∀ v, F10 v W → F10 v w) ∧ (∀ v, F11 v W → F11 v w) ∧ True)
    )
    (fin : ∀ out8 : Value, ∀ W, S { w with drawn := w.drawn + 1 } W → C 1 W → F12 out8 W → J out8 W) :
    DrawP Try.prog 63 (opsOf Try.f39 11) [6, 8, 9, 10] [il6, iout8, ii9, ik10] [8] J w := by
  have hall : ∀ _ : Nat → Value,
    (∀ k : Nat, 0 ≤ k → k ≤ 1 → ∀ W, S { w with drawn := w.drawn + 1 } W → C k W → 
      (E W W ∧ C k W ∧ iout8 = iout8)
    ) ∧
    (∀ k : Nat, 0 ≤ k → k ≤ 1 → ∀ W, S { w with drawn := w.drawn + 1 } W → C k W → 
      (E W W ∧ C k W ∧ ik10 = ik10)
    ) ∧
    (∀ t48 t49 : Value, ∀ k : Nat, 0 ≤ k → k ≤ 0 → ∀ W, S { w with drawn := w.drawn + 1 } W → C k W → t48 = iout8 → t49 = ik10 → 
      Does Try.prog (Instr.sliceAt 23 t48 none (some t49) none) W fun t50 w =>
      (E W w ∧ C k w ∧ F2 t50 w)
    ) ∧
    (∀ k : Nat, 0 ≤ k → k ≤ 1 → ∀ W, S { w with drawn := w.drawn + 1 } W → C k W → 
      (E W W ∧ C k W ∧ il6 = il6)
    ) ∧
    (∀ k : Nat, 0 ≤ k → k ≤ 1 → ∀ W, S { w with drawn := w.drawn + 1 } W → C k W → 
      (E W W ∧ C k W ∧ ii9 = ii9)
    ) ∧
    (∀ t51 t52 : Value, ∀ k : Nat, 0 ≤ k → k ≤ 1 → ∀ W, S { w with drawn := w.drawn + 1 } W → C k W → t51 = il6 → t52 = ii9 → 
      Does Try.prog (Instr.indexAt 23 t51 t52) W fun t53 w =>
      (E W w ∧ C k w ∧ F5 t53 w)
    ) ∧
    (∀ t53 : Value, ∀ k : Nat, 0 ≤ k → k ≤ 1 → ∀ W, S { w with drawn := w.drawn + 1 } W → C k W → F5 t53 W → 
      Does Try.prog (Instr.loadAt 9 t53) W fun t54 w =>
      (E W w ∧ C k w ∧ F6 t54 w)
    ) ∧
    (∀ t54 : Value, ∀ k : Nat, 0 ≤ k → k ≤ 1 → ∀ W, S { w with drawn := w.drawn + 1 } W → C k W → F6 t54 W → 
      Does Try.prog (Instr.buildSlice 23 1 #[(0, t54)]) W fun t55 w =>
      (E W w ∧ C k w ∧ F7 t55 w)
    ) ∧
    (∀ k : Nat, 0 ≤ k → k ≤ 1 → ∀ W, S { w with drawn := w.drawn + 1 } W → C k W → 
      (E W W ∧ C k W ∧ iout8 = iout8)
    ) ∧
    (∀ k : Nat, 0 ≤ k → k ≤ 1 → ∀ W, S { w with drawn := w.drawn + 1 } W → C k W → 
      (E W W ∧ C k W ∧ ik10 = ik10)
    ) ∧
    (∀ t56 t57 : Value, ∀ k : Nat, 0 ≤ k → k ≤ 1 → ∀ W, S { w with drawn := w.drawn + 1 } W → C k W → t56 = iout8 → t57 = ik10 → 
      Does Try.prog (Instr.sliceAt 23 t56 (some t57) none none) W fun t58 w =>
      (E W w ∧ C k w ∧ F10 t58 w)
    ) ∧
    (∀ t55 t58 : Value, ∀ k : Nat, 0 ≤ k → k ≤ 0 → ∀ W, S { w with drawn := w.drawn + 1 } W → C k W → F7 t55 W → F10 t58 W → 
      Does Try.prog (Builtin.append_ #[23, 23] 23 #[t55, t58]) W fun t59 w =>
      (E W w ∧ C k w ∧ F11 t59 w)
    ) ∧
    (∀ t50 t59 : Value, ∀ W, S { w with drawn := w.drawn + 1 } W → C 0 W → F2 t50 W → F11 t59 W → 
      Does Try.prog (Builtin.append_ #[23, 23] 23 #[t50, t59]) W fun t60 w =>
      (S W w ∧ C 1 w ∧ F12 t60 w ∧ (∀ v : Value, v = iout8 → v = iout8) ∧ (∀ v : Value, v = ik10 → v = ik10) ∧ (∀ v : Value, F2 v W → F2 v w) ∧ (∀ v : Value, v = il6 → v = il6) ∧ (∀ v : Value, v = ii9 → v = ii9) ∧ (∀ v : Value, F5 v W → F5 v w) ∧ (∀ v : Value, F6 v W → F6 v w) ∧ (∀ v : Value, F7 v W → F7 v w) ∧ (∀ v : Value, v = iout8 → v = iout8) ∧ (∀ v : Value, v = ik10 → v = ik10) ∧ (∀ v : Value, F10 v W → F10 v w) ∧ (∀ v : Value, F11 v W → F11 v w) ∧ True)
    ) ∧
    (∀ t60 : Value, ∀ k : Nat, 1 ≤ k → k ≤ 1 → ∀ W, S { w with drawn := w.drawn + 1 } W → C k W → F12 t60 W → 
      (E W W ∧ C k W ∧ F12 t60 W)
    ) ∧ True := fun _ => ⟨
    fun  k hk1 hk2 W hS hC  => ⟨he W, hC, by first | rfl | simp_all⟩,
    fun  k hk1 hk2 W hS hC  => ⟨he W, hC, by first | rfl | simp_all⟩,
    fun t48 t49 k hk1 hk2 W hS hC ht48 ht49 => (by obtain rfl : k = 0 := (by omega); subst ht48; subst ht49; exact o2  W hS hC ),
    fun  k hk1 hk2 W hS hC  => ⟨he W, hC, by first | rfl | simp_all⟩,
    fun  k hk1 hk2 W hS hC  => ⟨he W, hC, by first | rfl | simp_all⟩,
    fun t51 t52 k hk1 hk2 W hS hC ht51 ht52 => (by subst ht51; subst ht52; exact o5  k hk1 hk2 W hS hC ),
    fun t53 k hk1 hk2 W hS hC ht53 => (by exact o6 t53 k hk1 hk2 W hS hC ht53),
    fun t54 k hk1 hk2 W hS hC ht54 => (by exact o7 t54 k hk1 hk2 W hS hC ht54),
    fun  k hk1 hk2 W hS hC  => ⟨he W, hC, by first | rfl | simp_all⟩,
    fun  k hk1 hk2 W hS hC  => ⟨he W, hC, by first | rfl | simp_all⟩,
    fun t56 t57 k hk1 hk2 W hS hC ht56 ht57 => (by subst ht56; subst ht57; exact o10  k hk1 hk2 W hS hC ),
    fun t55 t58 k hk1 hk2 W hS hC ht55 ht58 => (by obtain rfl : k = 0 := (by omega); exact o11 t55 t58 W hS hC ht55 ht58),
    fun t50 t59 W hS hC ht50 ht59 => (by exact Does.mono (o12 t50 t59 W hS hC ht50 ht59) fun _ _ h => ⟨h.1, h.2.1, h.2.2.1, fun _ h => h, fun _ h => h, h.2.2.2.1, fun _ h => h, fun _ h => h, h.2.2.2.2.1, h.2.2.2.2.2.1, h.2.2.2.2.2.2.1, fun _ h => h, fun _ h => h, h.2.2.2.2.2.2.2.1, h.2.2.2.2.2.2.2.2.1, trivial⟩),
    fun t60 k hk1 hk2 W hS hC ht60 => ⟨he W, hC, ht60⟩,
    trivial⟩
  have hst := lkF_st (S := E) (l := [(0, fun v _ => v = iout8), (1, fun v _ => v = ik10), (2, F2), (3, fun v _ => v = il6), (4, fun v _ => v = ii9), (5, F5), (6, F6), (7, F7), (8, fun v _ => v = iout8), (9, fun v _ => v = ik10), (10, F10), (11, F11), (12, F12), (13, F12)]) (fun p hp => by
    simp only [List.mem_cons, List.not_mem_nil, or_false] at hp
    rcases hp with rfl | rfl | rfl | rfl | rfl | rfl | rfl | rfl | rfl | rfl | rfl | rfl | rfl | rfl
    · exact FSt.const _
    · exact FSt.const _
    · exact s2
    · exact FSt.const _
    · exact FSt.const _
    · exact s5
    · exact s6
    · exact s7
    · exact FSt.const _
    · exact FSt.const _
    · exact s10
    · exact s11
    · exact s12
    · exact s12
    )
  have hf : ∀ out8 : Value, ∀ W, S { w with drawn := w.drawn + 1 } W → C 1 W → F12 out8 W → J out8 W := fun out8 W hS hC hout8 => (by exact fin out8 W hS hC hout8)
  exact draw_phi (T := [12]) E S C (lkF [(0, fun v _ => v = iout8), (1, fun v _ => v = ik10), (2, F2), (3, fun v _ => v = il6), (4, fun v _ => v = ii9), (5, F5), (6, F6), (7, F7), (8, fun v _ => v = iout8), (9, fun v _ => v = ik10), (10, F10), (11, F11), (12, F12), (13, F12)]) (by kernel_rfl) hr ht hES hst h0 (Eq.mp (by kernel_rfl) hall) (Eq.mp (by kernel_rfl) hf)

end Go.Proofs.Ytcncgkkilgmphaa
