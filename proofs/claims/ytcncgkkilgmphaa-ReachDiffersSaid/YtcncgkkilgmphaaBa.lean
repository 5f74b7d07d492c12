/-
  Bytes: rows of bytes, digits, hexadecimal texts. Contracts of strings.IndexByte.
-/
import Derived.Test.YtcncgkkilgmphaaDs
import Derived.Test.YtcncgkkilgmphaaTx
import Derived.Lib.Bytealg
import Derived.WalkKit
import Derived.Laws.Strings
import Derived.Laws.BytesArg
import Derived.Laws.BytesString
import Derived.Lib.AppendStr
set_option linter.unusedVariables false
set_option linter.unusedSimpArgs false
namespace Go.Proofs.Ytcncgkkilgmphaa
open Go Go.RowKit

set_option maxRecDepth 100000 in
theorem ibyte_spec (s : ByteArray) (c : Int) (w : World) :
    Call Try.prog 117 #[.string s, .int .u8 c] w fun v w' => v = .int .i64 (Lib.indexByte s.data.toList c.toNat.toUInt8) ∧ w' = w := by
  refine ⟨has117, ?_⟩
  have h : Calls Try.prog 117 #[.string s, .int .u8 c] w fun e w' => e = .returned (.int .i64 (Lib.indexByte s.data.toList c.toNat.toUInt8)) ∧ w' = w := by
    go_enter Try.func117, Try.ntmps117
    go_wp2
    rw [run_callFunc_extern Try.func121 (by kernel_rfl) (by kernel_rfl) (by kernel_rfl) (e := Extern.BytealgIndexByte.indexByte) (by kernel_rfl), Lib.run_indexByteString]
    simp only [Result.andThen]
    rw [Oper.upon_value]
    go_wp2
    go_ret
    exact ⟨rfl, rfl⟩
  exact h.mono fun e w' ⟨h1, h2⟩ => ⟨_, h1, rfl, h2⟩
theorem indexByte_spec (s : ByteArray) (c : Int) (w : World) :
    Call Try.prog 108 #[.string s, .int .u8 c] w fun v w' => v = .int .i64 (Lib.indexByte s.data.toList c.toNat.toUInt8) ∧ w' = w := by
  apply vc108
  unfold V108
  exact (ibyte_spec s c w).mono fun v w' h => h
end Go.Proofs.Ytcncgkkilgmphaa
