/-
  Rows of bytes: the operations on them.
  Rows of bytes of the call's own: appending, reading, texts of them.
  Contracts: numbers as bytes (wire.Put, marref1.Put).
-/
import Derived.Test.YtcncgkkilgmphaaBa
import Derived.Test.YtcncgkkilgmphaaPu
set_option linter.unusedVariables false
set_option linter.unusedSimpArgs false
namespace Go.Proofs.Ytcncgkkilgmphaa
open Go Go.RowKit

theorem u_bytes : Try.prog.underlying 34 = some (.slice 5) := by kernel_rfl
theorem u_u8 : Try.prog.underlying 5 = some (.int .u8) := by kernel_rfl
theorem u_i64 : Try.prog.underlying 3 = some (.int .i64) := by kernel_rfl
theorem u_string : Try.prog.underlying 9 = some .string := by kernel_rfl
theorem sz_u8 (w : World) : (sizeOf 5).run Try.prog w = .ok 1 w := by kernel_rfl
theorem agg_u8 (w : World) : (isAgg 5).run Try.prog w = .ok false w := by kernel_rfl
theorem agg_bytes (w : World) : (isAgg 34).run Try.prog w = .ok false w := by kernel_rfl
theorem zero_u8 (w : World) : (zeroValue 5).run Try.prog w = .ok (.int .u8 0) w := by kernel_rfl
theorem info_u8 : infoOf Try.prog 5 (.int .u8 0) 1 := by unfold infoOf; kernel_rfl
def u8V (x : UInt8) : Value := .int .u8 (x.toNat : Int)
theorem bytesV_one (xs : List UInt8) : ∀ u ∈ bytesV xs, u.oneCell' = true := by
  intro u hu
  unfold bytesV at hu
  rw [List.mem_map] at hu
  obtain ⟨a, _, rfl⟩ := hu
  rfl
theorem bytesV_get {xs : List UInt8} {i : Nat} (h : i < xs.length) (h' : i < (bytesV xs).length) : (bytesV xs)[i] = u8V xs[i] := by simp [bytesV, u8V]
theorem bytesV_single (x : UInt8) : bytesV [x] = [u8V x] := rfl
/-! ### numbers turned -/
def b8 (n : Int) : UInt8 := UInt8.ofNat (n % 256).toNat
theorem b8_toNat (n : Int) : ((b8 n).toNat : Int) = n % 256 := by
  unfold b8
  rw [toNat8]
  omega
theorem b8_nat (n : Nat) : b8 (n : Int) = UInt8.ofNat n := by
  apply UInt8.toNat_inj.1
  have := b8_toNat (n : Int)
  rw [toNat8]
  omega
theorem b8_u8 (x : UInt8) : b8 (x.toNat : Int) = x := by
  apply UInt8.toNat_inj.1
  have := b8_toNat (x.toNat : Int)
  have := x.toNat_lt
  omega
theorem run_conv35 (n : Int) (w : World) : (convert 3 5 (.int .i64 n)).run Try.prog w = .ok (u8V (b8 n)) w := by
  have hk : Try.prog.intKind 5 = .u8 := by kernel_rfl
  rw [run_convert_int w 3 5 .i64 n (by rw [u_i64]; rfl) (by rw [hk]; exact u_u8), hk]
  unfold u8V
  rw [b8_toNat, IntKind.wrap_u8]
theorem run_conv53 (x : UInt8) (w : World) : (convert 5 3 (u8V x)).run Try.prog w = .ok (.int .i64 (x.toNat : Int)) w := by
  have hk : Try.prog.intKind 3 = .i64 := by kernel_rfl
  have hx := x.toNat_lt
  unfold u8V
  rw [run_convert_int w 5 3 .u8 _ (by rw [u_u8]; rfl) (by rw [hk]; exact u_i64), hk]
  rw [wrap_i64 (by omega) (by omega)]
/-! ### bits -/
theorem bits_nat_or (k : IntKind) {a b : Nat} (ha : a < 2 ^ k.bits) (hb : b < 2 ^ k.bits) : bits .or k a b = k.wrap ((a ||| b : Nat) : Int) := by
  unfold bits
  simp only [BitVec.toNat_or, BitVec.toNat_ofInt]
  congr 2
  rw [show ((a : Int) % (2 ^ k.bits : Nat)).toNat = a by rw [Int.emod_eq_of_lt (by omega) (by exact_mod_cast ha)]; simp, show ((b : Int) % (2 ^ k.bits : Nat)).toNat = b by rw [Int.emod_eq_of_lt (by omega) (by exact_mod_cast hb)]; simp]
theorem bits_nat_and (k : IntKind) {a b : Nat} (ha : a < 2 ^ k.bits) (hb : b < 2 ^ k.bits) : bits .and k a b = k.wrap ((a &&& b : Nat) : Int) := by
  unfold bits
  simp only [BitVec.toNat_and, BitVec.toNat_ofInt]
  congr 2
  rw [show ((a : Int) % (2 ^ k.bits : Nat)).toNat = a by rw [Int.emod_eq_of_lt (by omega) (by exact_mod_cast ha)]; simp, show ((b : Int) % (2 ^ k.bits : Nat)).toNat = b by rw [Int.emod_eq_of_lt (by omega) (by exact_mod_cast hb)]; simp]
theorem bits_nat_xor (k : IntKind) {a b : Nat} (ha : a < 2 ^ k.bits) (hb : b < 2 ^ k.bits) : bits .xor k a b = k.wrap ((a ^^^ b : Nat) : Int) := by
  unfold bits
  simp only [BitVec.toNat_xor, BitVec.toNat_ofInt]
  congr 2
  rw [show ((a : Int) % (2 ^ k.bits : Nat)).toNat = a by rw [Int.emod_eq_of_lt (by omega) (by exact_mod_cast ha)]; simp, show ((b : Int) % (2 ^ k.bits : Nat)).toNat = b by rw [Int.emod_eq_of_lt (by omega) (by exact_mod_cast hb)]; simp]
section
variable {P : Program} {w : World}
theorem run_and8 {t : TypeId} (x y : UInt8) (w : World) : (binOp .and t (u8V x) (u8V y)).run P w = .ok (u8V (x &&& y)) w := by
  unfold u8V
  have hx := x.toNat_lt
  have hy := y.toNat_lt
  rw [binOp_and, intBits_and, bits_nat_and .u8 (by simpa [IntKind.bits] using hx) (by simpa [IntKind.bits] using hy), IntKind.wrap_u8]
  simp only [Sem.run_pure, UInt8.toNat_and]
  have : x.toNat &&& y.toNat < 256 := Nat.and_lt_two_pow (n := 8) _ hy
  rw [show ((x.toNat &&& y.toNat : Nat) : Int) % 256 = ((x.toNat &&& y.toNat : Nat) : Int) by omega]
theorem run_or8 {t : TypeId} (x y : UInt8) (w : World) : (binOp .or t (u8V x) (u8V y)).run P w = .ok (u8V (x ||| y)) w := by
  unfold u8V
  have hx := x.toNat_lt
  have hy := y.toNat_lt
  rw [binOp_or, intBits_or, bits_nat_or .u8 (by simpa [IntKind.bits] using hx) (by simpa [IntKind.bits] using hy), IntKind.wrap_u8]
  simp only [Sem.run_pure, UInt8.toNat_or]
  have : x.toNat ||| y.toNat < 256 := Nat.or_lt_two_pow (n := 8) hx hy
  rw [show ((x.toNat ||| y.toNat : Nat) : Int) % 256 = ((x.toNat ||| y.toNat : Nat) : Int) by omega]
theorem run_or64 {t : TypeId} {a b : Nat} (ha : a < 9223372036854775808) (hb : b < 9223372036854775808) (w : World) : (binOp .or t (.int .i64 a) (.int .i64 b)).run P w = .ok (.int .i64 ((a ||| b : Nat) : Int)) w := by
  rw [binOp_or, intBits_or, bits_nat_or .i64 (by simp only [IntKind.bits]; omega) (by simp only [IntKind.bits]; omega)]
  have : a ||| b < 9223372036854775808 := Nat.or_lt_two_pow (n := 63) ha hb
  rw [wrap_i64 (by omega) (by omega)]
  rfl
theorem run_and64 {t : TypeId} {a b : Nat} (ha : a < 9223372036854775808) (hb : b < 9223372036854775808) (w : World) : (binOp .and t (.int .i64 a) (.int .i64 b)).run P w = .ok (.int .i64 ((a &&& b : Nat) : Int)) w := by
  rw [binOp_and, intBits_and, bits_nat_and .i64 (by simp only [IntKind.bits]; omega) (by simp only [IntKind.bits]; omega)]
  have : a &&& b < 9223372036854775808 := Nat.and_lt_two_pow (n := 63) _ hb
  rw [wrap_i64 (by omega) (by omega)]
  rfl
theorem run_shr64 {t : TypeId} {yk : IntKind} {a k : Nat} (hk : k < 64) (w : World) : (binOp .shr t (.int .i64 a) (.int yk k)).run P w = .ok (.int .i64 ((a / 2 ^ k : Nat) : Int)) w := by
  rw [binOp_shr]
  unfold Op.shift
  rw [if_neg (by omega)]
  simp only [Int.toNat_natCast, IntKind.bits]
  rw [show min k 64 = k by omega]
  simp only [Sem.run_pure]
  congr 2
  rw [Int.fdiv_eq_ediv_of_nonneg _ (Int.le_of_lt (Int.pow_pos (by omega)))]
  norm_cast
theorem run_shl64 {t : TypeId} {yk : IntKind} {a k : Nat} (hk : k < 64) (h : a * 2 ^ k < 9223372036854775808) (w : World) : (binOp .shl t (.int .i64 a) (.int yk k)).run P w = .ok (.int .i64 ((a * 2 ^ k : Nat) : Int)) w := by
  rw [binOp_shl]
  unfold Op.shift
  rw [if_neg (by omega)]
  simp only [Int.toNat_natCast, IntKind.bits]
  rw [show min k 64 = k by omega]
  simp only [Sem.run_pure]
  have e : ((a : Int) * 2 ^ k) = ((a * 2 ^ k : Nat) : Int) := by push_cast; rfl
  rw [e, wrap_i64 (by omega) (by omega)]
theorem run_shr8 {t : TypeId} {yk : IntKind} {k : Nat} (x : UInt8) (hk : k < 8) (w : World) : (binOp .shr t (u8V x) (.int yk k)).run P w = .ok (.int .u8 ((x.toNat / 2 ^ k : Nat) : Int)) w := by
  unfold u8V
  rw [binOp_shr]
  unfold Op.shift
  rw [if_neg (by omega)]
  simp only [Int.toNat_natCast, IntKind.bits]
  rw [show min k 8 = k by omega]
  simp only [Sem.run_pure]
  congr 2
  rw [Int.fdiv_eq_ediv_of_nonneg _ (Int.le_of_lt (Int.pow_pos (by omega)))]
  norm_cast
end
end Go.Proofs.Ytcncgkkilgmphaa

set_option linter.unusedVariables false
set_option linter.unusedSimpArgs false
namespace Go.Proofs.Ytcncgkkilgmphaa
open Go Go.RowKit

theorem ex1 {P : Program} {a : Value} {w : World} {k : Value → World → Prop} (hk : k a w) : Does P (Instr.extract (.tuple #[a]) 0) w k := does_extract (x := a) rfl hk
theorem ex2a {P : Program} {a b : Value} {w : World} {k : Value → World → Prop} (hk : k a w) : Does P (Instr.extract (.tuple #[a, b]) 0) w k := does_extract (x := a) rfl hk
theorem ex2b {P : Program} {a b : Value} {w : World} {k : Value → World → Prop} (hk : k b w) : Does P (Instr.extract (.tuple #[a, b]) 1) w k := does_extract (x := b) rfl hk
theorem ex3a {P : Program} {a b c : Value} {w : World} {k : Value → World → Prop} (hk : k a w) : Does P (Instr.extract (.tuple #[a, b, c]) 0) w k := does_extract (x := a) rfl hk
theorem ex3b {P : Program} {a b c : Value} {w : World} {k : Value → World → Prop} (hk : k b w) : Does P (Instr.extract (.tuple #[a, b, c]) 1) w k := does_extract (x := b) rfl hk
theorem ex3c {P : Program} {a b c : Value} {w : World} {k : Value → World → Prop} (hk : k c w) : Does P (Instr.extract (.tuple #[a, b, c]) 2) w k := does_extract (x := c) rfl hk
theorem qx {P : Program} {C : World → Prop} {s : Sem Value} {v : Value} {w : World} {k : Value → World → Prop} (h : ∀ W, s.run P W = .ok v W) (hk : k v w) : Quiet P C s w k := q_of h hk
theorem qc {P : Program} {C : World → Prop} {s : Sem Value} {v : Value} {w : World} {k : Value → World → Prop} (h : ∀ W, C W → s.run P W = .ok v W) (hk : k v w) : Quiet P C s w k := ⟨v, h, hk⟩
/-- a row of bytes that was made since w0 -/
def OwnB (w0 W : World) (v : Value) (l : List UInt8) : Prop := Own W w0.heap.size 5 v (bytesV l)
theorem OwnB.row {w0 W : World} {v : Value} {l : List UInt8} (h : OwnB w0 W v l) : Row W v (bytesV l) := Own.row h
theorem OwnB.ext {w0 W W' : World} {v : Value} {l : List UInt8} (h : OwnB w0 W v l) (hE : Ext W W') : OwnB w0 W' v l := Own.ext h hE
theorem OwnB.nil (w0 W : World) : OwnB w0 W (.slice none 0 0) [] := Own.nil _ _ _
theorem OwnB.back {w0 w1 W : World} {v : Value} {l : List UInt8} (h : OwnB w1 W v l) (hE : Ext w0 w1) : OwnB w0 W v l := Own.mono h hE.size
section
variable {w0 W : World} {v : Value} {l : List UInt8} {k : Value → World → Prop}
theorem OwnB.appendR {ty : TypeId} {x : Value} {m : List UInt8} (ho : OwnB w0 W v l) (hE : Ext w0 W) (hr : Row W x (bytesV m)) (hl : l.length + m.length ≤ 1099511627776)
    (hk : ∀ v' W', OwnB w0 W' v' (l ++ m) → Ext w0 W' → Mod v.ownBlock W W' → k v' W') : Does Try.prog (Builtin.append_ #[34, 34] ty #[v, x]) W k := by
  refine Own.append ho u_bytes info_u8 rfl hr (bytesV_one m) (by simp; omega) (by omega) hE.size fun v' W' h1 h2 h3 => hk v' W' ?_ (hE.grownOwn ho h2) h2
  unfold OwnB
  rw [bytesV_append]
  exact h1
theorem strCells_bytesV (s : ByteArray) : Lib.strCells s = bytesV (bs s) := rfl
theorem OwnB.appendS {ty : TypeId} {s : ByteArray} (ho : OwnB w0 W v l) (hE : Ext w0 W) (hl : l.length + s.size ≤ 1099511627776)
    (hk : ∀ v' W', OwnB w0 W' v' (l ++ bs s) → Ext w0 W' → Mod v.ownBlock W W' → k v' W') : Does Try.prog (Builtin.append_ #[34, 9] ty #[v, .string s]) W k := by
  obtain ⟨i0, hi0, hzz⟩ := Option.map_eq_some_iff.1 info_u8
  simp only [Prod.mk.injEq] at hzz
  obtain ⟨hz0, hz1, hz2⟩ := hzz
  obtain ⟨v', W', h1, h2, h3, _⟩ := Lib.run_append_own_string (P := Try.prog) W w0.heap.size 34 9 ty 5 i0 u_bytes u_string hi0 hz0 hz1 hz2 v (bytesV l).length (bytesV l) ho s (by simp [maxLen]; omega) (by simp; omega) hE.size
  refine does_of h1 (hk v' W' ?_ (hE.grownOwn ho h3) h3)
  unfold OwnB
  rw [bytesV_append]
  have : (bytesV l).length + s.size = (bytesV l ++ bytesV (bs s)).length := by simp [bs_length]
  rw [this] at h2
  exact h2
theorem run_build1 (x : UInt8) (W : World) : (Instr.buildSlice 34 1 #[(0, u8V x)]).run Try.prog W = .ok (.slice (some ⟨W.heap.size, 0, none⟩) 1 1) (W.alloc (.cells #[u8V x] 5)) :=
  run_buildSlice1 u_bytes sz_u8 zero_u8 rfl rfl W
theorem own_one (x : UInt8) (W : World) : OwnB W (W.alloc (.cells #[u8V x] 5)) (.slice (some ⟨W.heap.size, 0, none⟩) 1 1) [x] := own_single 5 (u8V x) (Nat.le_refl _)
theorem ext_one (x : UInt8) (W : World) : Ext W (W.alloc (.cells #[u8V x] 5)) := (Ext.refl W).alloc _
/-- append of one byte -/
theorem OwnB.push {ty : TypeId} {x : UInt8} (ho : OwnB w0 W v l) (hE : Ext w0 W) (hl : l.length + 1 ≤ 1099511627776)
    (hk : ∀ v' W', OwnB w0 W' v' (l ++ [x]) → Ext w0 W' → Mod v.ownBlock W W' → k v' W') : Does Try.prog (Instr.buildSlice 34 1 #[(0, u8V x)]) W fun t w => Does Try.prog (Builtin.append_ #[34, 34] ty #[v, t]) w k := by
  refine does_of (run_build1 x W) ?_
  refine OwnB.appendR (ho.ext (ext_one x W)) (hE.trans (ext_one x W)) (own_one x W).row (by simpa using hl) fun v' W' h1 h2 h3 => hk v' W' h1 h2 ((Mod.ofExt (ext_one x W)).trans h3)
end
theorem bytesV_eq (l : List UInt8) : bytesV l = (l.map fun b => (b.toNat : Int)).map (Value.int .u8) := by simp [bytesV]
theorem nums_mkS (l : List UInt8) : strOfNums (l.map fun b => (b.toNat : Int)) = mkS l := by
  unfold strOfNums mkS
  congr 1
  rw [List.map_map]
  congr 1
  conv => rhs; rw [← List.map_id l]
  exact List.map_congr_left fun x _ => by simp
/-- string(b) -/
theorem run_conv_str {w : World} {v : Value} {l : List UInt8} (h : Row w v (bytesV l)) : (convert 34 9 v).run Try.prog w = .ok (.string (mkS l)) w := by
  obtain ⟨a, c, rfl, hl, hc⟩ := h
  cases a with
  | none =>
    have : l = [] := by
      cases l with
      | nil => rfl
      | cons x l => obtain ⟨ad, h1, _⟩ := hc 0 (u8V x) (by simp [bytesV, u8V]); cases h1
    subst this
    rw [run_convert_bytes_nil w 34 5 u_bytes u_u8 _ _ 9 u_string]
    rfl
  | some ad =>
    have hload : (loadCells ad l.length).run Try.prog w = .ok (((l.map fun b => (b.toNat : Int)).map (Value.int .u8))).toArray w := by
      have := run_loadCells_list (P := Try.prog) w ad ((l.map fun b => (b.toNat : Int)).map (Value.int .u8)) (fun j v hj => by
        rw [← bytesV_eq] at hj
        obtain ⟨ad', h1, h2⟩ := hc j v hj
        cases h1; exact h2)
      simpa using this
    rw [bytesV_length, run_convert_bytes_string w 34 9 5 _ _ _ u_bytes u_u8 u_string, run_bytesToString w _ _ _ _ hload, foldl_push_bytes]
    congr 2
    rw [← nums_mkS l]
    simp [strOfNums, ByteArray.empty, ByteArray.emptyWithCapacity]
    rfl
section
variable {P : Program} {w : World} {k : Value → World → Prop}
theorem does_byteAt {w0 : World} {v : Value} {l : List UInt8} {i : Nat} {kk : IntKind} {x : UInt8} (hr : Row w0 v (bytesV l)) (hE : Ext w0 w) (hx : l[i]? = some x) (hk : k (u8V x) w) :
    Does Try.prog (Instr.indexAt 34 v (.int kk (i : Nat))) w fun t w => Does Try.prog (Instr.loadAt 5 t) w k := by
  obtain ⟨hi, hxi⟩ := List.getElem?_eq_some_iff.1 hx
  refine (hr.ext hE).index u_bytes sz_u8 (by simpa using hi) fun p hp => does_load1 agg_u8 hp ?_
  rw [bytesV_get hi, hxi]
  exact hk
theorem run_byteAt {w0 W : World} {v : Value} {l : List UInt8} {i : Nat} {kk : IntKind} {x : UInt8} (hr : Row w0 v (bytesV l)) (hx : l[i]? = some x) :
    ∃ p, (∀ W, (Instr.indexAt 34 v (.int kk (i : Nat))).run Try.prog W = .ok (.pointer (some p)) W) ∧ ∀ W, Ext w0 W → (Instr.loadAt 5 (.pointer (some p))).run Try.prog W = .ok (u8V x) W := by
  obtain ⟨a, c, rfl, hl, hc⟩ := hr
  obtain ⟨hi, hxi⟩ := List.getElem?_eq_some_iff.1 hx
  obtain ⟨ad, rfl, hcell⟩ := hc i (u8V x) (by rw [← hxi]; simp [bytesV, u8V, hi])
  have he : Try.prog.elem 34 = 5 := by simp [Program.elem, u_bytes]
  refine ⟨ad.add i, fun W => ?_, fun W hE => run_load1 agg_u8 (hE.cell hcell)⟩
  rw [run_indexAt_slice (h := by rw [he]; exact u_bytes), if_pos ⟨by omega, by simp; omega⟩, he, sz_u8]
  simp only [Result.andThen_ok, Nat.mul_one, Int.toNat_natCast]
theorem q_byteAt {w0 : World} {v : Value} {l : List UInt8} {i : Nat} {kk : IntKind} {x : UInt8} (hr : Row w0 v (bytesV l)) (hx : l[i]? = some x) (hk : k (u8V x) w) :
    Quiet Try.prog (Ext w0) (Instr.indexAt 34 v (.int kk (i : Nat))) w fun t w => Quiet Try.prog (Ext w0) (Instr.loadAt 5 t) w k := by
  obtain ⟨p, h1, h2⟩ := run_byteAt (W := w0) (kk := kk) hr hx
  exact q_of h1 ⟨_, h2, hk⟩
theorem bs_get {s : ByteArray} {i : Nat} {x : UInt8} (hx : (bs s)[i]? = some x) : ∃ h : i < s.size, s[i] = x := by
  obtain ⟨hi, hxi⟩ := List.getElem?_eq_some_iff.1 hx
  have : i < s.size := by rw [← bs_length]; exact hi
  refine ⟨this, ?_⟩
  rw [← hxi]
  rfl
/-- s[i] -/
theorem run_strAt {s : ByteArray} {i : Nat} {kk : IntKind} {x : UInt8} (hx : (bs s)[i]? = some x) (w : World) : (Instr.index 9 (.string s) (.int kk (i : Nat))).run Try.prog w = .ok (u8V x) w := by
  obtain ⟨h1, h2⟩ := bs_get hx
  rw [run_index_string w 9 s kk i u_string, dif_pos ⟨by omega, by omega⟩]
  unfold u8V
  rw [← h2]
  rfl
theorem run_lenStr {s : ByteArray} (ty : TypeId) (w : World) : (Builtin.len_ #[9] ty #[.string s]).run Try.prog w = .ok (.int .i64 ((bs s).length : Nat)) w := by
  rw [run_len_string w 9 ty s u_string, bs_length]; rfl
theorem bs_le {s : ByteArray} (h : s.size ≤ maxLen) : (bs s).length ≤ 9223372036854775807 := by rw [bs_length]; simpa [maxLen] using h
/-- comparing bytes -/
theorem run_lt8 {t : TypeId} (x y : UInt8) (w : World) : (binOp .lss t (u8V x) (u8V y)).run P w = .ok (.bool (decide (x.toNat < y.toNat))) w := by
  unfold u8V; rw [run_lt]; congr 2; simp
theorem run_gt8 {t : TypeId} (x y : UInt8) (w : World) : (binOp .gtr t (u8V x) (u8V y)).run P w = .ok (.bool (decide (y.toNat < x.toNat))) w := by
  unfold u8V; rw [run_gt]; congr 2; simp
theorem run_eq8 {t : TypeId} {o o' : Operand} (x y : UInt8) (w : World) : (eqE .eql t o o' (u8V x) (u8V y)).run P w = .ok (.bool (decide (x = y))) w := by
  unfold u8V; rw [run_eqI]; congr 2; rw [decide_eq_decide, ← UInt8.toNat_inj]; omega
theorem run_ne8 {t : TypeId} {o o' : Operand} (x y : UInt8) (w : World) : (eqE .neq t o o' (u8V x) (u8V y)).run P w = .ok (.bool (!decide (x = y))) w := by
  unfold u8V; rw [run_neI]; congr 3; rw [decide_eq_decide, ← UInt8.toNat_inj]; omega
end
/-- a block is as it was -/
def Kp (b : Nat) (cs : Array Value) (t : TypeId) (W : World) : Prop := W.heap[b]? = some (.cells cs t)
theorem Kp.ext {b : Nat} {cs : Array Value} {t : TypeId} {W W' : World} (h : Kp b cs t W) (hE : Ext W W') : Kp b cs t W' := hE.block h
theorem Kp.mod {b : Nat} {cs : Array Value} {t : TypeId} {W W' : World} {row : Option Nat} (h : Kp b cs t W) (hm : Mod row W W') (hne : some b ≠ row) : Kp b cs t W' := (hm.block b (Array.getElem?_eq_some_iff.1 h).1 hne).trans h
theorem OwnB.ne {w0 W : World} {v : Value} {l : List UInt8} {b : Nat} {cs : Array Value} {t : TypeId} (h : OwnB w0 W v l) (hk : Kp b cs t W) (ht : t ≠ 5) : some b ≠ v.ownBlock := fun e => by
  rcases h.2 with ⟨rfl, h0⟩ | ⟨g, cap, cur, rfl, hb, hg, _⟩
  · simp [Value.ownBlock] at e
  · simp [Value.ownBlock] at e
    subst e
    unfold Kp at hk
    rw [hg] at hk
    simp only [Option.some.injEq, Obj.cells.injEq] at hk
    exact ht hk.2.1.symm
end Go.Proofs.Ytcncgkkilgmphaa

set_option linter.unusedVariables false
set_option linter.unusedSimpArgs false
namespace Go.Proofs.Ytcncgkkilgmphaa
open Go Go.RowKit

theorem or128 (x : UInt8) : x ||| 128 = UInt8.ofNat (x.toNat % 128 + 128) := by
  have h : ∀ i : Fin 256, UInt8.ofNat i.val ||| 128 = UInt8.ofNat ((UInt8.ofNat i.val).toNat % 128 + 128) := by decide +kernel
  have := h ⟨x.toNat, x.toNat_lt⟩
  simpa using this
theorem b8_or (n : Nat) : b8 (n : Int) ||| 128 = UInt8.ofNat (n % 128 + 128) := by
  rw [b8_nat, or128]
  congr 1
  rw [toNat8]
  omega
theorem and127 (x : UInt8) : x &&& 127 = UInt8.ofNat (x.toNat % 128) := by
  have h : ∀ i : Fin 256, UInt8.ofNat i.val &&& 127 = UInt8.ofNat ((UInt8.ofNat i.val).toNat % 128) := by decide +kernel
  have := h ⟨x.toNat, x.toNat_lt⟩
  simpa using this
theorem u8c (n : Nat) (h : n < 256) : Value.int .u8 (n : Int) = u8V (UInt8.ofNat n) := by
  unfold u8V
  rw [toNat8]
  congr 1
  omega
structure PutSt where
  m : Nat
  v : Value
  acc : List UInt8
theorem wput_spec {w : World} {n : Nat} (hn : n < 9223372036854775808) : Call Try.prog 107 #[.int .i64 n] w fun v w' => OwnB w w' v (putL n) ∧ Ext w w' := by
  apply vc107
  unfold V107
  have hpl : (putL n).length ≤ 9 := put_length_le (k := 9) (by omega) (by omega)
  refine rounds2 (σ := PutSt) (fun s => .int .i64 s.m) (fun s => s.v) (fun s W => s.m < 9223372036854775808 ∧ Ext w W ∧ OwnB w W s.v s.acc ∧ s.acc ++ putL s.m = putL n) (fun s _ => s.m) ⟨n, .slice none 0 0, []⟩ rfl rfl ⟨hn, Ext.refl _, OwnB.nil _ _, rfl⟩ ?_
  rintro next ⟨m, v, acc⟩ W ⟨hm, hE, ho, hacc⟩ hnext _
  simp only at hm ho hacc ⊢
  have hal : acc.length ≤ 9 := by
    have := congrArg List.length hacc
    simp only [List.length_append] at this
    omega
  refine does_gt (condP_of (fun hgt => ?_) fun hle => ?_)
  · have hgt' : ¬ m < 128 := by simp at hgt; omega
    refine does_of (run_conv35 m W) ?_
    rw [show Value.int .u8 128 = u8V 128 from rfl]
    refine does_of (run_or8 _ _ W) ?_
    rw [b8_or]
    refine ho.push hE (by omega) fun v' W' h1 h2 _ => ?_
    refine does_of (run_shr64 (k := 7) (by omega) W') ?_
    exact hnext ⟨m / 128, v', acc ++ [UInt8.ofNat (m % 128 + 128)]⟩ _ _ W' rfl rfl ⟨by simp only; omega, h2, h1, by simp only; rw [List.append_assoc, ← hacc, putL_ge hgt']; rfl⟩ (by simp only; omega)
  · have hlt : m < 128 := by simp at hle; omega
    refine does_of (run_conv35 m W) ?_
    rw [b8_nat]
    refine ho.push hE (by omega) fun v' W' h1 h2 _ => ⟨?_, h2⟩
    rw [← hacc, putL_lt hlt]
    exact h1
theorem wirePut_spec {w : World} {n : Nat} (hn : n ≤ 72057594037927936) : Call Try.prog 90 #[.int .i64 n] w fun v w' => ∃ s, v = .tuple #[s, .int .i64 0] ∧ OwnB w w' s (putL n) ∧ Ext w w' := by
  apply vc90
  unfold V90
  refine does_lt ?_
  refine or_join (decide ((72057594037927936 : Int) < n)) (fun _ j hj => does_gt hj) ?_
  refine condP_of (fun h => ?_) fun _ => ?_
  · simp at h; omega
  · exact (wput_spec (by omega)).mono fun v w' ⟨h1, h2⟩ => ⟨v, rfl, h1, h2⟩
theorem number_spec {w0 w : World} {b : Value} {l : List UInt8} {n : Nat} (hn : n ≤ 72057594037927936) (ho : OwnB w0 w b l) (hE : Ext w0 w) (hl : l.length ≤ 1099511620000) :
    Call Try.prog 70 #[b, .int .i64 n] w fun v w' => OwnB w0 w' v (l ++ putL n) ∧ Ext w0 w' ∧ Mod b.ownBlock w w' := by
  apply vc70
  unfold V70
  refine (wirePut_spec hn).mono fun v w1 ⟨s, hv, h1, h2⟩ => ?_
  subst hv
  have := put_length hn
  refine ex2a (ex2b ((ho.ext h2).appendR (hE.trans h2) h1.row (by omega) fun v' W' g1 g2 g3 => ⟨g1, g2, (Mod.ofExt h2).trans g3⟩))
theorem rput_spec {w : World} {n : Nat} (hn : n ≤ 72057594037927936) : Call Try.prog 97 #[.int .i64 n] w fun v w' => ∃ s, v = .tuple #[s, .int .i64 0] ∧ OwnB w w' s (putL n) ∧ Ext w w' := by
  apply vc97
  unfold V97
  refine does_lt ?_
  refine or_join (decide ((72057594037927936 : Int) < n)) (fun _ j hj => does_gt hj) ?_
  refine condP_of (fun h => ?_) fun _ => ?_
  · simp at h; omega
  have hpl : (putL n).length ≤ 9 := put_length_le (k := 9) (by omega) (by omega)
  refine rounds2 (σ := PutSt) (fun s => .int .i64 s.m) (fun s => s.v) (fun s W => s.m < 9223372036854775808 ∧ Ext w W ∧ OwnB w W s.v s.acc ∧ s.acc ++ putL s.m = putL n) (fun s _ => s.m) ⟨n, .slice none 0 0, []⟩ rfl rfl ⟨by simp only; omega, Ext.refl _, OwnB.nil _ _, rfl⟩ ?_
  rintro next ⟨m, v, acc⟩ W ⟨hm, hE, ho, hacc⟩ hnext _
  simp only at hm ho hacc ⊢
  have hal : acc.length ≤ 9 := by
    have := congrArg List.length hacc
    simp only [List.length_append] at this
    omega
  refine does_gt (condP_of (fun hgt => ?_) fun hle => ?_)
  · have hgt' : ¬ m < 128 := by simp at hgt; omega
    have e1 : m &&& 127 = m % 128 := Nat.and_two_pow_sub_one_eq_mod m 7
    have e2 : m % 128 ||| 128 = m % 128 + 128 := by
      have := Nat.two_pow_add_eq_or_of_lt (i := 7) (b := m % 128) (by omega) 1
      rw [Nat.or_comm]
      simpa using this.symm.trans (Nat.add_comm _ _)
    refine does_of (run_and64 (b := 127) hm (by omega) W) ?_
    rw [e1]
    refine does_of (run_or64 (b := 128) (by omega) (by omega) W) ?_
    rw [e2]
    refine does_of (run_conv35 _ W) ?_
    rw [b8_nat]
    refine ho.push hE (by omega) fun v' W' h1 h2 _ => ?_
    refine does_of (run_shr64 (k := 7) (by omega) W') ?_
    exact hnext ⟨m / 128, v', acc ++ [UInt8.ofNat (m % 128 + 128)]⟩ _ _ W' rfl rfl ⟨by simp only; omega, h2, h1, by simp only; rw [List.append_assoc, ← hacc, putL_ge hgt']; rfl⟩ (by simp only; omega)
  · have hlt : m < 128 := by simp at hle; omega
    refine does_of (run_conv35 m W) ?_
    rw [b8_nat]
    refine ho.push hE (by omega) fun v' W' h1 h2 _ => ⟨v', rfl, ?_, h2⟩
    rw [← hacc, putL_lt hlt]
    exact h1
theorem num_spec {w : World} {n : Nat} (hn : n ≤ 72057594037927936) : Call Try.prog 77 #[.int .i64 n] w fun v w' => OwnB w w' v (putL n) ∧ Ext w w' := by
  apply vc77
  unfold V77
  refine (rput_spec hn).mono fun v w1 ⟨s, hv, h1, h2⟩ => ?_
  subst hv
  exact ex2a (ex2b ⟨h1, h2⟩)
end Go.Proofs.Ytcncgkkilgmphaa
