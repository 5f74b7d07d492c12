import Derived.Test.YtcncgkkilgmphaaDs
set_option linter.unusedVariables false
set_option maxRecDepth 100000
namespace Go.Proofs.Ytcncgkkilgmphaa
open Go
theorem q5_16 {it8 it10 it13 it14 it16 : Value} {w : World} {J : VF 1} (C : World → Prop) (hC : C { w with drawn := w.drawn + 1 })
    (h : ∀ _ : Nat → Value,
    Quiet Try.prog C (Instr.indexAt 23 it10 it16) w fun t94 w =>
    Quiet Try.prog C (Instr.loadAt 9 t94) w fun t95 w =>
    QCall Try.prog C 14 #[it8, t95] w fun t96 w =>
    Quiet Try.prog C (Instr.indexAt 23 it10 it16) w fun t100 w =>
    Quiet Try.prog C (Instr.loadAt 9 t100) w fun t101 w =>
    QCall Try.prog C 14 #[it13, t101] w fun t102 w =>
    JoinP 1 (fun j1 => GuardP t102 false (
      Quiet Try.prog C (Instr.indexAt 23 it10 it16) w fun t107 w =>
      Quiet Try.prog C (Instr.loadAt 9 t107) w fun t108 w =>
      QCall Try.prog C 14 #[it14, t108] w fun t109 w =>
      j1 t109 w
    ) (j1 undef w))
    (fun t109 w => ∀ _ : Nat → Value,
    PickP t102 (Go.Value.bool true) t109 fun t110 =>
    Quiet Try.prog C (eqE .eql 4 (Go.Operand.tmp 96) (Go.Operand.tmp 110) t96 t110) w fun t111 w =>
    ∀ W, C W → J t111 W
    )
    ) : DrawP Try.prog 146 (opsOf Try.f5 16) [8, 10, 13, 14, 16] [it8, it10, it13, it14, it16] [111] J w :=
  draw_quiet C (by kernel_rfl) hC (Eq.mp (by kernel_rfl) h)

end Go.Proofs.Ytcncgkkilgmphaa
