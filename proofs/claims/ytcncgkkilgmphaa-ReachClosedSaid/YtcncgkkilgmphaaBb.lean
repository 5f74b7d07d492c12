/-
  Rows of bytes: the operations on them.
-/
import Derived.Test.YtcncgkkilgmphaaBa
import Derived.Test.YtcncgkkilgmphaaPu
set_option linter.unusedVariables false
set_option linter.unusedSimpArgs false
namespace Go.Proofs.Ytcncgkkilgmphaa
open Go Go.RowKit

theorem u_bytes : Try.prog.underlying 34 = some (.slice 5) := by kernel_rfl
theorem u_u8 : Try.prog.underlying 5 = some (.int .u8) := by kernel_rfl
theorem u_i64 : Try.prog.underlying 3 = some (.int .i64) := by kernel_rfl
theorem u_string : Try.prog.underlying 9 = some .string := by kernel_rfl
theorem sz_u8 (w : World) : (sizeOf 5).run Try.prog w = .ok 1 w := by kernel_rfl
theorem agg_u8 (w : World) : (isAgg 5).run Try.prog w = .ok false w := by kernel_rfl
theorem agg_bytes (w : World) : (isAgg 34).run Try.prog w = .ok false w := by kernel_rfl
theorem zero_u8 (w : World) : (zeroValue 5).run Try.prog w = .ok (.int .u8 0) w := by kernel_rfl
theorem info_u8 : infoOf Try.prog 5 (.int .u8 0) 1 := by unfold infoOf; kernel_rfl
def u8V (x : UInt8) : Value := .int .u8 (x.toNat : Int)
theorem bytesV_one (xs : List UInt8) : ∀ u ∈ bytesV xs, u.oneCell' = true := by
  intro u hu
  unfold bytesV at hu
  rw [List.mem_map] at hu
  obtain ⟨a, _, rfl⟩ := hu
  rfl
theorem bytesV_get {xs : List UInt8} {i : Nat} (h : i < xs.length) (h' : i < (bytesV xs).length) : (bytesV xs)[i] = u8V xs[i] := by simp [bytesV, u8V]
theorem bytesV_single (x : UInt8) : bytesV [x] = [u8V x] := rfl
/-! ### numbers turned -/
def b8 (n : Int) : UInt8 := UInt8.ofNat (n % 256).toNat
theorem b8_toNat (n : Int) : ((b8 n).toNat : Int) = n % 256 := by
  unfold b8
  rw [toNat8]
  omega
theorem b8_nat (n : Nat) : b8 (n : Int) = UInt8.ofNat n := by
  apply UInt8.toNat_inj.1
  have := b8_toNat (n : Int)
  rw [toNat8]
  omega
theorem b8_u8 (x : UInt8) : b8 (x.toNat : Int) = x := by
  apply UInt8.toNat_inj.1
  have := b8_toNat (x.toNat : Int)
  have := x.toNat_lt
  omega
theorem run_conv35 (n : Int) (w : World) : (convert 3 5 (.int .i64 n)).run Try.prog w = .ok (u8V (b8 n)) w := by
  have hk : Try.prog.intKind 5 = .u8 := by kernel_rfl
  rw [run_convert_int w 3 5 .i64 n (by rw [u_i64]; rfl) (by rw [hk]; exact u_u8), hk]
  unfold u8V
  rw [b8_toNat, IntKind.wrap_u8]
theorem run_conv53 (x : UInt8) (w : World) : (convert 5 3 (u8V x)).run Try.prog w = .ok (.int .i64 (x.toNat : Int)) w := by
  have hk : Try.prog.intKind 3 = .i64 := by kernel_rfl
  have hx := x.toNat_lt
  unfold u8V
  rw [run_convert_int w 5 3 .u8 _ (by rw [u_u8]; rfl) (by rw [hk]; exact u_i64), hk]
  rw [wrap_i64 (by omega) (by omega)]
/-! ### bits -/
theorem bits_nat_or (k : IntKind) {a b : Nat} (ha : a < 2 ^ k.bits) (hb : b < 2 ^ k.bits) : bits .or k a b = k.wrap ((a ||| b : Nat) : Int) := by
  unfold bits
  simp only [BitVec.toNat_or, BitVec.toNat_ofInt]
  congr 2
  rw [show ((a : Int) % (2 ^ k.bits : Nat)).toNat = a by rw [Int.emod_eq_of_lt (by omega) (by exact_mod_cast ha)]; simp, show ((b : Int) % (2 ^ k.bits : Nat)).toNat = b by rw [Int.emod_eq_of_lt (by omega) (by exact_mod_cast hb)]; simp]
theorem bits_nat_and (k : IntKind) {a b : Nat} (ha : a < 2 ^ k.bits) (hb : b < 2 ^ k.bits) : bits .and k a b = k.wrap ((a &&& b : Nat) : Int) := by
  unfold bits
  simp only [BitVec.toNat_and, BitVec.toNat_ofInt]
  congr 2
  rw [show ((a : Int) % (2 ^ k.bits : Nat)).toNat = a by rw [Int.emod_eq_of_lt (by omega) (by exact_mod_cast ha)]; simp, show ((b : Int) % (2 ^ k.bits : Nat)).toNat = b by rw [Int.emod_eq_of_lt (by omega) (by exact_mod_cast hb)]; simp]
theorem bits_nat_xor (k : IntKind) {a b : Nat} (ha : a < 2 ^ k.bits) (hb : b < 2 ^ k.bits) : bits .xor k a b = k.wrap ((a ^^^ b : Nat) : Int) := by
  unfold bits
  simp only [BitVec.toNat_xor, BitVec.toNat_ofInt]
  congr 2
  rw [show ((a : Int) % (2 ^ k.bits : Nat)).toNat = a by rw [Int.emod_eq_of_lt (by omega) (by exact_mod_cast ha)]; simp, show ((b : Int) % (2 ^ k.bits : Nat)).toNat = b by rw [Int.emod_eq_of_lt (by omega) (by exact_mod_cast hb)]; simp]
section
variable {P : Program} {w : World}
theorem run_and8 {t : TypeId} (x y : UInt8) (w : World) : (binOp .and t (u8V x) (u8V y)).run P w = .ok (u8V (x &&& y)) w := by
  unfold u8V
  have hx := x.toNat_lt
  have hy := y.toNat_lt
  rw [binOp_and, intBits_and, bits_nat_and .u8 (by simpa [IntKind.bits] using hx) (by simpa [IntKind.bits] using hy), IntKind.wrap_u8]
  simp only [Sem.run_pure, UInt8.toNat_and]
  have : x.toNat &&& y.toNat < 256 := Nat.and_lt_two_pow (n := 8) _ hy
  rw [show ((x.toNat &&& y.toNat : Nat) : Int) % 256 = ((x.toNat &&& y.toNat : Nat) : Int) by omega]
theorem run_or8 {t : TypeId} (x y : UInt8) (w : World) : (binOp .or t (u8V x) (u8V y)).run P w = .ok (u8V (x ||| y)) w := by
  unfold u8V
  have hx := x.toNat_lt
  have hy := y.toNat_lt
  rw [binOp_or, intBits_or, bits_nat_or .u8 (by simpa [IntKind.bits] using hx) (by simpa [IntKind.bits] using hy), IntKind.wrap_u8]
  simp only [Sem.run_pure, UInt8.toNat_or]
  have : x.toNat ||| y.toNat < 256 := Nat.or_lt_two_pow (n := 8) hx hy
  rw [show ((x.toNat ||| y.toNat : Nat) : Int) % 256 = ((x.toNat ||| y.toNat : Nat) : Int) by omega]
theorem run_or64 {t : TypeId} {a b : Nat} (ha : a < 9223372036854775808) (hb : b < 9223372036854775808) (w : World) : (binOp .or t (.int .i64 a) (.int .i64 b)).run P w = .ok (.int .i64 ((a ||| b : Nat) : Int)) w := by
  rw [binOp_or, intBits_or, bits_nat_or .i64 (by simp only [IntKind.bits]; omega) (by simp only [IntKind.bits]; omega)]
  have : a ||| b < 9223372036854775808 := Nat.or_lt_two_pow (n := 63) ha hb
  rw [wrap_i64 (by omega) (by omega)]
  rfl
theorem run_and64 {t : TypeId} {a b : Nat} (ha : a < 9223372036854775808) (hb : b < 9223372036854775808) (w : World) : (binOp .and t (.int .i64 a) (.int .i64 b)).run P w = .ok (.int .i64 ((a &&& b : Nat) : Int)) w := by
  rw [binOp_and, intBits_and, bits_nat_and .i64 (by simp only [IntKind.bits]; omega) (by simp only [IntKind.bits]; omega)]
  have : a &&& b < 9223372036854775808 := Nat.and_lt_two_pow (n := 63) _ hb
  rw [wrap_i64 (by omega) (by omega)]
  rfl
theorem run_shr64 {t : TypeId} {yk : IntKind} {a k : Nat} (hk : k < 64) (w : World) : (binOp .shr t (.int .i64 a) (.int yk k)).run P w = .ok (.int .i64 ((a / 2 ^ k : Nat) : Int)) w := by
  rw [binOp_shr]
  unfold Op.shift
  rw [if_neg (by omega)]
  simp only [Int.toNat_natCast, IntKind.bits]
  rw [show min k 64 = k by omega]
  simp only [Sem.run_pure]
  congr 2
  rw [Int.fdiv_eq_ediv_of_nonneg _ (Int.le_of_lt (Int.pow_pos (by omega)))]
  norm_cast
theorem run_shl64 {t : TypeId} {yk : IntKind} {a k : Nat} (hk : k < 64) (h : a * 2 ^ k < 9223372036854775808) (w : World) : (binOp .shl t (.int .i64 a) (.int yk k)).run P w = .ok (.int .i64 ((a * 2 ^ k : Nat) : Int)) w := by
  rw [binOp_shl]
  unfold Op.shift
  rw [if_neg (by omega)]
  simp only [Int.toNat_natCast, IntKind.bits]
  rw [show min k 64 = k by omega]
  simp only [Sem.run_pure]
  have e : ((a : Int) * 2 ^ k) = ((a * 2 ^ k : Nat) : Int) := by push_cast; rfl
  rw [e, wrap_i64 (by omega) (by omega)]
theorem run_shr8 {t : TypeId} {yk : IntKind} {k : Nat} (x : UInt8) (hk : k < 8) (w : World) : (binOp .shr t (u8V x) (.int yk k)).run P w = .ok (.int .u8 ((x.toNat / 2 ^ k : Nat) : Int)) w := by
  unfold u8V
  rw [binOp_shr]
  unfold Op.shift
  rw [if_neg (by omega)]
  simp only [Int.toNat_natCast, IntKind.bits]
  rw [show min k 8 = k by omega]
  simp only [Sem.run_pure]
  congr 2
  rw [Int.fdiv_eq_ediv_of_nonneg _ (Int.le_of_lt (Int.pow_pos (by omega)))]
  norm_cast
end
end Go.Proofs.Ytcncgkkilgmphaa
