/-
  Words of 32 bits: the operations; marref1.turn, marref1.constants.
-/
import Derived.Test.YtcncgkkilgmphaaSa
set_option linter.unusedVariables false
set_option linter.unusedSimpArgs false
namespace Go.Proofs.Ytcncgkkilgmphaa
open Go Go.RowKit

def u32V (x : Nat) : Value := .int .u32 ((x : Nat) : Int)
def wordsA (l : List Nat) : Array Value := (l.map u32V).toArray
def wordsV (l : List Nat) : List Value := l.map u32V
theorem wordsA_get {l : List Nat} {i : Nat} (h : i < l.length) : (wordsA l)[i]? = some (u32V (l.getD i 0)) := by
  simp [wordsA, List.getD, h]
theorem wordsA_set (l : List Nat) (i x : Nat) : (wordsA l).setIfInBounds i (u32V x) = wordsA (l.set i x) := by
  simp [wordsA, List.map_set]
theorem u_u32 : Try.prog.underlying 120 = some (.int .u32) := by kernel_rfl
theorem u_u64 : Try.prog.underlying 121 = some (.int .u64) := by kernel_rfl
theorem u_words : Try.prog.underlying 118 = some (.slice 120) := by kernel_rfl
theorem agg_u32 (w : World) : (isAgg 120).run Try.prog w = .ok false w := by kernel_rfl
theorem sz_u32 (w : World) : (sizeOf 120).run Try.prog w = .ok 1 w := by kernel_rfl
theorem sz_arr (w : World) : (sizeOf 123).run Try.prog w = .ok 8 w := by kernel_rfl
section
variable {P : Program}
theorem run_add32 {t : TypeId} (a b : Nat) (w : World) : (binOp .add t (u32V a) (u32V b)).run P w = .ok (u32V ((a + b) % 4294967296)) w := by
  unfold u32V
  rw [binOp_add]
  simp only [Op.intArith, Sem.run_pure, IntKind.wrap_u32]
  congr 2
theorem run_xor32 {t : TypeId} {a b : Nat} (ha : a < 4294967296) (hb : b < 4294967296) (w : World) : (binOp .xor t (u32V a) (u32V b)).run P w = .ok (u32V (a ^^^ b)) w := by
  unfold u32V
  rw [binOp_xor, intBits_xor, bits_nat_xor .u32 (by simpa [IntKind.bits] using ha) (by simpa [IntKind.bits] using hb), IntKind.wrap_u32]
  have : a ^^^ b < 4294967296 := Nat.xor_lt_two_pow (n := 32) ha hb
  rw [show ((a ^^^ b : Nat) : Int) % 4294967296 = ((a ^^^ b : Nat) : Int) by omega]
  rfl
theorem run_and32 {t : TypeId} {a b : Nat} (ha : a < 4294967296) (hb : b < 4294967296) (w : World) : (binOp .and t (u32V a) (u32V b)).run P w = .ok (u32V (a &&& b)) w := by
  unfold u32V
  rw [binOp_and, intBits_and, bits_nat_and .u32 (by simpa [IntKind.bits] using ha) (by simpa [IntKind.bits] using hb), IntKind.wrap_u32]
  have : a &&& b < 4294967296 := Nat.and_lt_two_pow (n := 32) _ hb
  rw [show ((a &&& b : Nat) : Int) % 4294967296 = ((a &&& b : Nat) : Int) by omega]
  rfl
theorem run_or32 {t : TypeId} {a b : Nat} (ha : a < 4294967296) (hb : b < 4294967296) (w : World) : (binOp .or t (u32V a) (u32V b)).run P w = .ok (u32V (a ||| b)) w := by
  unfold u32V
  rw [binOp_or, intBits_or, bits_nat_or .u32 (by simpa [IntKind.bits] using ha) (by simpa [IntKind.bits] using hb), IntKind.wrap_u32]
  have : a ||| b < 4294967296 := Nat.or_lt_two_pow (n := 32) ha hb
  rw [show ((a ||| b : Nat) : Int) % 4294967296 = ((a ||| b : Nat) : Int) by omega]
  rfl
theorem run_not32 {a : Nat} (ha : a < 4294967296) (w : World) : (Op.unary .xor (u32V a)).run P w = .ok (u32V (4294967295 ^^^ a)) w := by
  unfold u32V
  rw [unary_xor, intBits_xor]
  have e : (if IntKind.u32.signed = true then (-1 : Int) else IntKind.u32.max) = ((4294967295 : Nat) : Int) := by decide
  rw [e, bits_nat_xor .u32 (by simp [IntKind.bits]) (by simpa [IntKind.bits] using ha), IntKind.wrap_u32]
  have : 4294967295 ^^^ a < 4294967296 := Nat.xor_lt_two_pow (n := 32) (by omega) ha
  rw [show ((4294967295 ^^^ a : Nat) : Int) % 4294967296 = ((4294967295 ^^^ a : Nat) : Int) by omega]
  rfl
theorem run_shr32 {t : TypeId} {yk : IntKind} {a k : Nat} (hk : k < 32) (w : World) : (binOp .shr t (u32V a) (.int yk k)).run P w = .ok (u32V (a >>> k)) w := by
  unfold u32V
  rw [binOp_shr]
  unfold Op.shift
  rw [if_neg (by omega)]
  simp only [Int.toNat_natCast, IntKind.bits]
  rw [show min k 32 = k by omega]
  simp only [Sem.run_pure]
  congr 2
  rw [Int.fdiv_eq_ediv_of_nonneg _ (Int.le_of_lt (Int.pow_pos (by omega))), Nat.shiftRight_eq_div_pow]
  norm_cast
theorem run_shl32 {t : TypeId} {yk : IntKind} {a k : Nat} (hk : k < 32) (w : World) : (binOp .shl t (u32V a) (.int yk k)).run P w = .ok (u32V ((a <<< k) % 4294967296)) w := by
  unfold u32V
  rw [binOp_shl]
  unfold Op.shift
  rw [if_neg (by omega)]
  simp only [Int.toNat_natCast, IntKind.bits]
  rw [show min k 32 = k by omega]
  simp only [Sem.run_pure, IntKind.wrap_u32]
  congr 2
  rw [Nat.shiftLeft_eq, Int.natCast_emod, Int.natCast_mul, Int.natCast_pow]
  rfl
end
theorem run_conv8_32 (x : UInt8) (w : World) : (convert 5 120 (u8V x)).run Try.prog w = .ok (u32V x.toNat) w := by
  have hk : Try.prog.intKind 120 = .u32 := by kernel_rfl
  have hx := x.toNat_lt
  unfold u8V u32V
  rw [run_convert_int w 5 120 .u8 _ (by rw [u_u8]; rfl) (by rw [hk]; exact u_u32), hk, IntKind.wrap_u32]
  rw [show ((x.toNat : Nat) : Int) % 4294967296 = ((x.toNat : Nat) : Int) by omega]
theorem run_conv32_8 (x : Nat) (w : World) : (convert 120 5 (u32V x)).run Try.prog w = .ok (u8V (UInt8.ofNat x)) w := by
  have hk : Try.prog.intKind 5 = .u8 := by kernel_rfl
  unfold u32V
  rw [run_convert_int w 120 5 .u32 _ (by rw [u_u32]; rfl) (by rw [hk]; exact u_u8), hk, ← b8_nat]
  unfold u8V
  rw [b8_toNat, IntKind.wrap_u8]
theorem run_conv64u (n : Nat) (hn : n < 9223372036854775808) (w : World) : (convert 3 121 (.int .i64 n)).run Try.prog w = .ok (.int .u64 ((n : Nat) : Int)) w := by
  have hk : Try.prog.intKind 121 = .u64 := by kernel_rfl
  rw [run_convert_int w 3 121 .i64 _ (by rw [u_i64]; rfl) (by rw [hk]; exact u_u64), hk, IntKind.wrap_u64]
  rw [show ((n : Nat) : Int) % 18446744073709551616 = ((n : Nat) : Int) by omega]
theorem run_mulu64 {P : Program} {t : TypeId} {a b : Nat} (h : a * b < 9223372036854775808) (w : World) : (binOp .mul t (.int .u64 a) (.int .u64 b)).run P w = .ok (.int .u64 ((a * b : Nat) : Int)) w := by
  rw [binOp_mul]
  simp only [Op.intArith, Sem.run_pure, IntKind.wrap_u64]
  have e : ((a : Int) * (b : Int)) = ((a * b : Nat) : Int) := by push_cast; rfl
  rw [e, show ((a * b : Nat) : Int) % 18446744073709551616 = ((a * b : Nat) : Int) by omega]
theorem run_shru64 {P : Program} {t : TypeId} {yk : IntKind} {a k : Nat} (hk : k < 64) (w : World) : (binOp .shr t (.int .u64 a) (.int yk k)).run P w = .ok (.int .u64 ((a / 2 ^ k : Nat) : Int)) w := by
  rw [binOp_shr]
  unfold Op.shift
  rw [if_neg (by omega)]
  simp only [Int.toNat_natCast, IntKind.bits]
  rw [show min k 64 = k by omega]
  simp only [Sem.run_pure]
  congr 2
  rw [Int.fdiv_eq_ediv_of_nonneg _ (Int.le_of_lt (Int.pow_pos (by omega)))]
  norm_cast
theorem run_convu64_8 (x : Nat) (w : World) : (convert 121 5 (.int .u64 ((x : Nat) : Int))).run Try.prog w = .ok (u8V (UInt8.ofNat x)) w := by
  have hk : Try.prog.intKind 5 = .u8 := by kernel_rfl
  rw [run_convert_int w 121 5 .u64 _ (by rw [u_u64]; rfl) (by rw [hk]; exact u_u8), hk, ← b8_nat]
  unfold u8V
  rw [b8_toNat, IntKind.wrap_u8]
theorem turn_spec {w : World} {x n : Nat} (hx : x < 4294967296) (hn : n < 32) (hn0 : 0 < n) : Call Try.prog 93 #[u32V x, .int .i64 n] w fun v w' => v = u32V (trn x n) ∧ Ext w w' := by
  apply vc93
  unfold V93
  refine q93_1 (Ext w) (Ext.drawn _) fun _ => ?_
  refine qx (run_shr32 hn) (qx (fun W => run_sub (by omega) (by omega) W) ?_)
  rw [show (32 : Int) - (n : Int) = ((32 - n : Nat) : Int) by omega]
  refine qx (run_shl32 (by omega)) (qx (run_or32 ?_ (Nat.mod_lt _ (by omega))) ?_)
  · exact Nat.lt_of_le_of_lt (by rw [Nat.shiftRight_eq_div_pow]; exact Nat.div_le_self _ _) hx
  · exact fun W hW _ => ⟨rfl, hW⟩
theorem run_buildK (W : World) : (Instr.buildSlice 118 8 #[(0, .int .u32 1779033703), (1, .int .u32 3144134277), (2, .int .u32 1013904242), (3, .int .u32 2773480762), (4, .int .u32 1359893119), (5, .int .u32 2600822924), (6, .int .u32 528734635), (7, .int .u32 1541459225)]).run Try.prog W = .ok (.slice (some ⟨W.heap.size, 0, none⟩) 8 8) (W.alloc (.cells (wordsA h0K.l) 120)) := by
  simp [go_sem, Instr.buildSlice]
  rfl
/-- places in slices of words, in the array -/
theorem run_wAt {b n i : Nat} {kk : IntKind} (hi : i < n) (W : World) : (Instr.indexAt 118 (.slice (some ⟨b, 0, none⟩) n n) (.int kk ((i : Nat) : Int))).run Try.prog W = .ok (.pointer (some ⟨b, i, none⟩)) W := by
  have he : Try.prog.elem 118 = 120 := by simp [Program.elem, u_words]
  have ha : (⟨b, 0, none⟩ : Addr).add i = ⟨b, i, none⟩ := by unfold Addr.add; split <;> simp_all
  rw [run_indexAt_slice (h := by rw [he]; exact u_words), if_pos ⟨by omega, by omega⟩, he, sz_u32]
  simp [ha]
theorem u_arr : Try.prog.underlying 123 = some (.array 8 120) := by kernel_rfl
theorem run_vAt {b i : Nat} {kk : IntKind} (hi : i < 8) (W : World) : (Instr.indexAt 123 (.pointer (some ⟨b, 0, none⟩)) (.int kk ((i : Nat) : Int))).run Try.prog W = .ok (.pointer (some ⟨b, i, none⟩)) W := by
  have he : Try.prog.elem 123 = 120 := by simp [Program.elem, u_arr]
  have hl : Try.prog.arrayLen 123 = 8 := by simp [Program.arrayLen, u_arr]
  have ha : (⟨b, 0, none⟩ : Addr).add i = ⟨b, i, none⟩ := by unfold Addr.add; split <;> simp_all
  rw [run_indexAt_array (h := by rw [he, hl]; exact u_arr), hl, if_pos ⟨by omega, by omega⟩, he, sz_u32]
  simp [ha]
theorem Kp.word {b i : Nat} {l : List Nat} {t : TypeId} {W : World} (h : Kp b (wordsA l) t W) (hi : i < l.length) : (Instr.loadAt 120 (.pointer (some ⟨b, i, none⟩))).run Try.prog W = .ok (u32V (l.getD i 0)) W :=
  run_load1 agg_u32 (h.cell (wordsA_get hi))
theorem Kp.setWord {b i x : Nat} {l : List Nat} {t : TypeId} {W : World} (h : Kp b (wordsA l) t W) (hi : i < l.length) : (Instr.storeAt 120 (.pointer (some ⟨b, i, none⟩)) (u32V x)).run Try.prog W = .ok () (W.setCell ⟨b, i, none⟩ (u32V x)) ∧ Kp b (wordsA (l.set i x)) t (W.setCell ⟨b, i, none⟩ (u32V x)) := by
  refine ⟨run_store1 sz_u32 rfl rfl (h.cell (wordsA_get hi)) h.frozen, ?_⟩
  rw [← wordsA_set]
  exact h.set _
end Go.Proofs.Ytcncgkkilgmphaa
