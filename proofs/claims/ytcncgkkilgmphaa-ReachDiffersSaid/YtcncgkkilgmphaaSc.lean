/-
  Plain law: the hash of bytes, as the document's reference reckons it.
  Words of 32 bits: the operations; marref1.turn, marref1.constants.
  Contract: marref1.Sum, its drawn regions.
-/
import Derived.Test.YtcncgkkilgmphaaOs
import Derived.Test.YtcncgkkilgmphaaH2
set_option linter.unusedVariables false
set_option linter.unusedSimpArgs false
namespace Go.Proofs.Ytcncgkkilgmphaa
open Go Go.RowKit

def trn (x n : Nat) : Nat := (x >>> n) ||| ((x <<< (32 - n)) % 4294967296)
def word (a b c d : Nat) : Nat := ((a <<< 24 ||| b <<< 16) ||| c <<< 8) ||| d
def nextW (w : List Nat) : Nat :=
  (((w.getD (w.length - 16) 0 + ((trn (w.getD (w.length - 15) 0) 7 ^^^ trn (w.getD (w.length - 15) 0) 18) ^^^ (w.getD (w.length - 15) 0) >>> 3)) % 4294967296 + w.getD (w.length - 7) 0) % 4294967296 +
    ((trn (w.getD (w.length - 2) 0) 17 ^^^ trn (w.getD (w.length - 2) 0) 19) ^^^ (w.getD (w.length - 2) 0) >>> 10)) % 4294967296
def extW : Nat → List Nat → List Nat
  | 0, w => w
  | k + 1, w => extW k (w ++ [nextW w])
def wordsOf (m : List UInt8) : Nat → List Nat
  | 0 => []
  | k + 1 => wordsOf m k ++ [word (m.getD (4 * k) 0).toNat (m.getD (4 * k + 1) 0).toNat (m.getD (4 * k + 2) 0).toNat (m.getD (4 * k + 3) 0).toNat]
def sched (m : List UInt8) : List Nat := extW 48 (wordsOf m 16)
def t1F (e f g h k w : Nat) : Nat :=
  ((((h + ((trn e 6 ^^^ trn e 11) ^^^ trn e 25)) % 4294967296 + ((e &&& f) ^^^ ((4294967295 ^^^ e) &&& g))) % 4294967296 + k) % 4294967296 + w) % 4294967296
def t2F (t1 a b c : Nat) : Nat := ((t1 + ((trn a 2 ^^^ trn a 13) ^^^ trn a 22)) % 4294967296 + (((a &&& b) ^^^ (a &&& c)) ^^^ (b &&& c))) % 4294967296
structure Oct where
  a : Nat
  b : Nat
  c : Nat
  d : Nat
  e : Nat
  f : Nat
  g : Nat
  h : Nat
def Oct.l (v : Oct) : List Nat := [v.a, v.b, v.c, v.d, v.e, v.f, v.g, v.h]
def rnd (k w : Nat) (v : Oct) : Oct := ⟨t2F (t1F v.e v.f v.g v.h k w) v.a v.b v.c, v.a, v.b, v.c, (v.d + t1F v.e v.f v.g v.h k w) % 4294967296, v.e, v.f, v.g⟩
def rndsF (ks ws : List Nat) : Nat → Oct → Oct
  | 0, v => v
  | n + 1, v => rnd (ks.getD n 0) (ws.getD n 0) (rndsF ks ws n v)
def addV (x y : Oct) : Oct := ⟨(x.a + y.a) % 4294967296, (x.b + y.b) % 4294967296, (x.c + y.c) % 4294967296, (x.d + y.d) % 4294967296, (x.e + y.e) % 4294967296, (x.f + y.f) % 4294967296, (x.g + y.g) % 4294967296, (x.h + y.h) % 4294967296⟩
def kK : List Nat := [1116352408, 1899447441, 3049323471, 3921009573, 961987163, 1508970993, 2453635748, 2870763221, 3624381080, 310598401, 607225278, 1426881987, 1925078388, 2162078206, 2614888103, 3248222580,
  3835390401, 4022224774, 264347078, 604807628, 770255983, 1249150122, 1555081692, 1996064986, 2554220882, 2821834349, 2952996808, 3210313671, 3336571891, 3584528711, 113926993, 338241895,
  666307205, 773529912, 1294757372, 1396182291, 1695183700, 1986661051, 2177026350, 2456956037, 2730485921, 2820302411, 3259730800, 3345764771, 3516065817, 3600352804, 4094571909, 275423344,
  430227734, 506948616, 659060556, 883997877, 958139571, 1322822218, 1537002063, 1747873779, 1955562222, 2024104815, 2227730452, 2361852424, 2428436474, 2756734187, 3204031479, 3329325298]
def h0K : Oct := ⟨1779033703, 3144134277, 1013904242, 2773480762, 1359893119, 2600822924, 528734635, 1541459225⟩
def blockS (h : Oct) (m : List UInt8) : Oct := addV h (rndsF kK (sched m) 64 h)
def blocksF (m : List UInt8) : Nat → Oct
  | 0 => h0K
  | n + 1 => blockS (blocksF m n) (m.drop (64 * n))
def lenB (n : Nat) : List UInt8 := [UInt8.ofNat (n / 2 ^ 56), UInt8.ofNat (n / 2 ^ 48), UInt8.ofNat (n / 2 ^ 40), UInt8.ofNat (n / 2 ^ 32), UInt8.ofNat (n / 2 ^ 24), UInt8.ofNat (n / 2 ^ 16), UInt8.ofNat (n / 2 ^ 8), UInt8.ofNat n]
def padL (l : List UInt8) : List UInt8 := (l ++ [128]) ++ List.replicate ((119 - l.length % 64) % 64) 0 ++ lenB (l.length * 8)
def out4 (x : Nat) : List UInt8 := [UInt8.ofNat (x / 2 ^ 24), UInt8.ofNat (x / 2 ^ 16), UInt8.ofNat (x / 2 ^ 8), UInt8.ofNat x]
def sumL (l : List UInt8) : List UInt8 := (blocksF (padL l) ((padL l).length / 64)).l.flatMap out4
theorem sumL_length (l : List UInt8) : (sumL l).length = 32 := by simp [sumL, Oct.l, out4]
def idOf (l : List UInt8) : ByteArray := hexS (sumL l)
theorem padL_length (l : List UInt8) : (padL l).length % 64 = 0 := by
  simp only [padL, lenB, List.length_append, List.length_cons, List.length_nil, List.length_replicate]
  omega
/-! ### bounds -/
theorem trn_lt {x n : Nat} (hx : x < 4294967296) : trn x n < 4294967296 := by
  unfold trn
  refine Nat.or_lt_two_pow (n := 32) ?_ (Nat.mod_lt _ (by omega))
  exact Nat.lt_of_le_of_lt (by rw [Nat.shiftRight_eq_div_pow]; exact Nat.div_le_self _ _) hx
theorem word_lt {a b c d : Nat} (ha : a < 256) (hb : b < 256) (hc : c < 256) (hd : d < 256) : word a b c d < 4294967296 := by
  unfold word
  simp only [Nat.shiftLeft_eq]
  refine Nat.or_lt_two_pow (n := 32) (Nat.or_lt_two_pow (Nat.or_lt_two_pow ?_ ?_) ?_) ?_ <;> omega
theorem getD_lt {w : List Nat} (h : ∀ x ∈ w, x < 4294967296) (i : Nat) : w.getD i 0 < 4294967296 := by
  rw [List.getD_eq_getElem?_getD]
  cases hx : w[i]? with
  | none => simp
  | some x => exact h x (List.mem_of_getElem? hx)
theorem nextW_lt (w : List Nat) : nextW w < 4294967296 := Nat.mod_lt _ (by omega)
theorem extW_lt : ∀ (k : Nat) (w : List Nat), (∀ x ∈ w, x < 4294967296) → ∀ x ∈ extW k w, x < 4294967296
  | 0, w, h => h
  | k + 1, w, h => extW_lt k _ fun x hx => by
    rcases List.mem_append.1 hx with hx | hx
    · exact h x hx
    · rw [List.mem_singleton.1 hx]; exact nextW_lt w
theorem extW_length : ∀ (k : Nat) (w : List Nat), (extW k w).length = w.length + k
  | 0, w => rfl
  | k + 1, w => by
    unfold extW
    rw [extW_length k]
    simp
    omega
theorem wordsOf_length (m : List UInt8) : ∀ k, (wordsOf m k).length = k
  | 0 => rfl
  | k + 1 => by simp [wordsOf, wordsOf_length m k]
theorem wordsOf_lt (m : List UInt8) : ∀ k, ∀ x ∈ wordsOf m k, x < 4294967296
  | 0, x, h => by simp [wordsOf] at h
  | k + 1, x, h => by
    unfold wordsOf at h
    rcases List.mem_append.1 h with h | h
    · exact wordsOf_lt m k x h
    · rw [List.mem_singleton.1 h]
      exact word_lt (UInt8.toNat_lt _) (UInt8.toNat_lt _) (UInt8.toNat_lt _) (UInt8.toNat_lt _)
theorem sched_length (m : List UInt8) : (sched m).length = 64 := by unfold sched; rw [extW_length, wordsOf_length]
theorem sched_lt (m : List UInt8) : ∀ x ∈ sched m, x < 4294967296 := extW_lt _ _ (wordsOf_lt m 16)
structure Oct.Ok (v : Oct) : Prop where
  a : v.a < 4294967296
  b : v.b < 4294967296
  c : v.c < 4294967296
  d : v.d < 4294967296
  e : v.e < 4294967296
  f : v.f < 4294967296
  g : v.g < 4294967296
  h : v.h < 4294967296
theorem rnd_ok {k w : Nat} {v : Oct} (h : v.Ok) : (rnd k w v).Ok := ⟨Nat.mod_lt _ (by omega), h.a, h.b, h.c, Nat.mod_lt _ (by omega), h.e, h.f, h.g⟩
theorem rndsF_ok {ks ws : List Nat} {v : Oct} (h : v.Ok) : ∀ n, (rndsF ks ws n v).Ok
  | 0 => h
  | n + 1 => rnd_ok (rndsF_ok h n)
theorem addV_ok (x y : Oct) : (addV x y).Ok := ⟨Nat.mod_lt _ (by omega), Nat.mod_lt _ (by omega), Nat.mod_lt _ (by omega), Nat.mod_lt _ (by omega), Nat.mod_lt _ (by omega), Nat.mod_lt _ (by omega), Nat.mod_lt _ (by omega), Nat.mod_lt _ (by omega)⟩
theorem h0K_ok : h0K.Ok := ⟨by decide, by decide, by decide, by decide, by decide, by decide, by decide, by decide⟩
theorem blocksF_ok (m : List UInt8) : ∀ n, (blocksF m n).Ok
  | 0 => h0K_ok
  | n + 1 => addV_ok _ _
theorem kK_lt : ∀ x ∈ kK, x < 4294967296 := by decide
example : hexS (sumL [97, 98, 99]) = mkS [98, 97, 55, 56, 49, 54, 98, 102, 56, 102, 48, 49, 99, 102, 101, 97, 52, 49, 52, 49, 52, 48, 100, 101, 53, 100, 97, 101, 50, 50, 50, 51, 98, 48, 48, 51, 54, 49, 97, 51, 57, 54, 49, 55, 55, 97, 57, 99, 98, 52, 49, 48, 102, 102, 54, 49, 102, 50, 48, 48, 49, 53, 97, 100] := by kernel_rfl
end Go.Proofs.Ytcncgkkilgmphaa

set_option linter.unusedVariables false
set_option linter.unusedSimpArgs false
namespace Go.Proofs.Ytcncgkkilgmphaa
open Go Go.RowKit

def u32V (x : Nat) : Value := .int .u32 ((x : Nat) : Int)
def wordsA (l : List Nat) : Array Value := (l.map u32V).toArray
def wordsV (l : List Nat) : List Value := l.map u32V
theorem wordsA_get {l : List Nat} {i : Nat} (h : i < l.length) : (wordsA l)[i]? = some (u32V (l.getD i 0)) := by
  simp [wordsA, List.getD, h]
theorem wordsA_set (l : List Nat) (i x : Nat) : (wordsA l).setIfInBounds i (u32V x) = wordsA (l.set i x) := by
  simp [wordsA, List.map_set]
theorem u_u32 : Try.prog.underlying 120 = some (.int .u32) := by kernel_rfl
theorem u_u64 : Try.prog.underlying 121 = some (.int .u64) := by kernel_rfl
theorem u_words : Try.prog.underlying 118 = some (.slice 120) := by kernel_rfl
theorem agg_u32 (w : World) : (isAgg 120).run Try.prog w = .ok false w := by kernel_rfl
theorem sz_u32 (w : World) : (sizeOf 120).run Try.prog w = .ok 1 w := by kernel_rfl
theorem sz_arr (w : World) : (sizeOf 123).run Try.prog w = .ok 8 w := by kernel_rfl
section
variable {P : Program}
theorem run_add32 {t : TypeId} (a b : Nat) (w : World) : (binOp .add t (u32V a) (u32V b)).run P w = .ok (u32V ((a + b) % 4294967296)) w := by
  unfold u32V
  rw [binOp_add]
  simp only [Op.intArith, Sem.run_pure, IntKind.wrap_u32]
  congr 2
theorem run_xor32 {t : TypeId} {a b : Nat} (ha : a < 4294967296) (hb : b < 4294967296) (w : World) : (binOp .xor t (u32V a) (u32V b)).run P w = .ok (u32V (a ^^^ b)) w := by
  unfold u32V
  rw [binOp_xor, intBits_xor, bits_nat_xor .u32 (by simpa [IntKind.bits] using ha) (by simpa [IntKind.bits] using hb), IntKind.wrap_u32]
  have : a ^^^ b < 4294967296 := Nat.xor_lt_two_pow (n := 32) ha hb
  rw [show ((a ^^^ b : Nat) : Int) % 4294967296 = ((a ^^^ b : Nat) : Int) by omega]
  rfl
theorem run_and32 {t : TypeId} {a b : Nat} (ha : a < 4294967296) (hb : b < 4294967296) (w : World) : (binOp .and t (u32V a) (u32V b)).run P w = .ok (u32V (a &&& b)) w := by
  unfold u32V
  rw [binOp_and, intBits_and, bits_nat_and .u32 (by simpa [IntKind.bits] using ha) (by simpa [IntKind.bits] using hb), IntKind.wrap_u32]
  have : a &&& b < 4294967296 := Nat.and_lt_two_pow (n := 32) _ hb
  rw [show ((a &&& b : Nat) : Int) % 4294967296 = ((a &&& b : Nat) : Int) by omega]
  rfl
theorem run_or32 {t : TypeId} {a b : Nat} (ha : a < 4294967296) (hb : b < 4294967296) (w : World) : (binOp .or t (u32V a) (u32V b)).run P w = .ok (u32V (a ||| b)) w := by
  unfold u32V
  rw [binOp_or, intBits_or, bits_nat_or .u32 (by simpa [IntKind.bits] using ha) (by simpa [IntKind.bits] using hb), IntKind.wrap_u32]
  have : a ||| b < 4294967296 := Nat.or_lt_two_pow (n := 32) ha hb
  rw [show ((a ||| b : Nat) : Int) % 4294967296 = ((a ||| b : Nat) : Int) by omega]
  rfl
theorem run_not32 {a : Nat} (ha : a < 4294967296) (w : World) : (Op.unary .xor (u32V a)).run P w = .ok (u32V (4294967295 ^^^ a)) w := by
  unfold u32V
  rw [unary_xor, intBits_xor]
  have e : (if IntKind.u32.signed = true then (-1 : Int) else IntKind.u32.max) = ((4294967295 : Nat) : Int) := by decide
  rw [e, bits_nat_xor .u32 (by simp [IntKind.bits]) (by simpa [IntKind.bits] using ha), IntKind.wrap_u32]
  have : 4294967295 ^^^ a < 4294967296 := Nat.xor_lt_two_pow (n := 32) (by omega) ha
  rw [show ((4294967295 ^^^ a : Nat) : Int) % 4294967296 = ((4294967295 ^^^ a : Nat) : Int) by omega]
  rfl
theorem run_shr32 {t : TypeId} {yk : IntKind} {a k : Nat} (hk : k < 32) (w : World) : (binOp .shr t (u32V a) (.int yk k)).run P w = .ok (u32V (a >>> k)) w := by
  unfold u32V
  rw [binOp_shr]
  unfold Op.shift
  rw [if_neg (by omega)]
  simp only [Int.toNat_natCast, IntKind.bits]
  rw [show min k 32 = k by omega]
  simp only [Sem.run_pure]
  congr 2
  rw [Int.fdiv_eq_ediv_of_nonneg _ (Int.le_of_lt (Int.pow_pos (by omega))), Nat.shiftRight_eq_div_pow]
  norm_cast
theorem run_shl32 {t : TypeId} {yk : IntKind} {a k : Nat} (hk : k < 32) (w : World) : (binOp .shl t (u32V a) (.int yk k)).run P w = .ok (u32V ((a <<< k) % 4294967296)) w := by
  unfold u32V
  rw [binOp_shl]
  unfold Op.shift
  rw [if_neg (by omega)]
  simp only [Int.toNat_natCast, IntKind.bits]
  rw [show min k 32 = k by omega]
  simp only [Sem.run_pure, IntKind.wrap_u32]
  congr 2
  rw [Nat.shiftLeft_eq, Int.natCast_emod, Int.natCast_mul, Int.natCast_pow]
  rfl
end
theorem run_conv8_32 (x : UInt8) (w : World) : (convert 5 120 (u8V x)).run Try.prog w = .ok (u32V x.toNat) w := by
  have hk : Try.prog.intKind 120 = .u32 := by kernel_rfl
  have hx := x.toNat_lt
  unfold u8V u32V
  rw [run_convert_int w 5 120 .u8 _ (by rw [u_u8]; rfl) (by rw [hk]; exact u_u32), hk, IntKind.wrap_u32]
  rw [show ((x.toNat : Nat) : Int) % 4294967296 = ((x.toNat : Nat) : Int) by omega]
theorem run_conv32_8 (x : Nat) (w : World) : (convert 120 5 (u32V x)).run Try.prog w = .ok (u8V (UInt8.ofNat x)) w := by
  have hk : Try.prog.intKind 5 = .u8 := by kernel_rfl
  unfold u32V
  rw [run_convert_int w 120 5 .u32 _ (by rw [u_u32]; rfl) (by rw [hk]; exact u_u8), hk, ← b8_nat]
  unfold u8V
  rw [b8_toNat, IntKind.wrap_u8]
theorem run_conv64u (n : Nat) (hn : n < 9223372036854775808) (w : World) : (convert 3 121 (.int .i64 n)).run Try.prog w = .ok (.int .u64 ((n : Nat) : Int)) w := by
  have hk : Try.prog.intKind 121 = .u64 := by kernel_rfl
  rw [run_convert_int w 3 121 .i64 _ (by rw [u_i64]; rfl) (by rw [hk]; exact u_u64), hk, IntKind.wrap_u64]
  rw [show ((n : Nat) : Int) % 18446744073709551616 = ((n : Nat) : Int) by omega]
theorem run_mulu64 {P : Program} {t : TypeId} {a b : Nat} (h : a * b < 9223372036854775808) (w : World) : (binOp .mul t (.int .u64 a) (.int .u64 b)).run P w = .ok (.int .u64 ((a * b : Nat) : Int)) w := by
  rw [binOp_mul]
  simp only [Op.intArith, Sem.run_pure, IntKind.wrap_u64]
  have e : ((a : Int) * (b : Int)) = ((a * b : Nat) : Int) := by push_cast; rfl
  rw [e, show ((a * b : Nat) : Int) % 18446744073709551616 = ((a * b : Nat) : Int) by omega]
theorem run_shru64 {P : Program} {t : TypeId} {yk : IntKind} {a k : Nat} (hk : k < 64) (w : World) : (binOp .shr t (.int .u64 a) (.int yk k)).run P w = .ok (.int .u64 ((a / 2 ^ k : Nat) : Int)) w := by
  rw [binOp_shr]
  unfold Op.shift
  rw [if_neg (by omega)]
  simp only [Int.toNat_natCast, IntKind.bits]
  rw [show min k 64 = k by omega]
  simp only [Sem.run_pure]
  congr 2
  rw [Int.fdiv_eq_ediv_of_nonneg _ (Int.le_of_lt (Int.pow_pos (by omega)))]
  norm_cast
theorem run_convu64_8 (x : Nat) (w : World) : (convert 121 5 (.int .u64 ((x : Nat) : Int))).run Try.prog w = .ok (u8V (UInt8.ofNat x)) w := by
  have hk : Try.prog.intKind 5 = .u8 := by kernel_rfl
  rw [run_convert_int w 121 5 .u64 _ (by rw [u_u64]; rfl) (by rw [hk]; exact u_u8), hk, ← b8_nat]
  unfold u8V
  rw [b8_toNat, IntKind.wrap_u8]
theorem turn_spec {w : World} {x n : Nat} (hx : x < 4294967296) (hn : n < 32) (hn0 : 0 < n) : Call Try.prog 93 #[u32V x, .int .i64 n] w fun v w' => v = u32V (trn x n) ∧ Ext w w' := by
  apply vc93
  unfold V93
  refine q93_1 (Ext w) (Ext.drawn _) fun _ => ?_
  refine qx (run_shr32 hn) (qx (fun W => run_sub (by omega) (by omega) W) ?_)
  rw [show (32 : Int) - (n : Int) = ((32 - n : Nat) : Int) by omega]
  refine qx (run_shl32 (by omega)) (qx (run_or32 ?_ (Nat.mod_lt _ (by omega))) ?_)
  · exact Nat.lt_of_le_of_lt (by rw [Nat.shiftRight_eq_div_pow]; exact Nat.div_le_self _ _) hx
  · exact fun W hW _ => ⟨rfl, hW⟩
theorem run_buildK (W : World) : (Instr.buildSlice 118 8 #[(0, .int .u32 1779033703), (1, .int .u32 3144134277), (2, .int .u32 1013904242), (3, .int .u32 2773480762), (4, .int .u32 1359893119), (5, .int .u32 2600822924), (6, .int .u32 528734635), (7, .int .u32 1541459225)]).run Try.prog W = .ok (.slice (some ⟨W.heap.size, 0, none⟩) 8 8) (W.alloc (.cells (wordsA h0K.l) 120)) := by
  simp [go_sem, Instr.buildSlice]
  rfl
/-- places in slices of words, in the array -/
theorem run_wAt {b n i : Nat} {kk : IntKind} (hi : i < n) (W : World) : (Instr.indexAt 118 (.slice (some ⟨b, 0, none⟩) n n) (.int kk ((i : Nat) : Int))).run Try.prog W = .ok (.pointer (some ⟨b, i, none⟩)) W := by
  have he : Try.prog.elem 118 = 120 := by simp [Program.elem, u_words]
  have ha : (⟨b, 0, none⟩ : Addr).add i = ⟨b, i, none⟩ := by unfold Addr.add; split <;> simp_all
  rw [run_indexAt_slice (h := by rw [he]; exact u_words), if_pos ⟨by omega, by omega⟩, he, sz_u32]
  simp [ha]
theorem u_arr : Try.prog.underlying 123 = some (.array 8 120) := by kernel_rfl
theorem run_vAt {b i : Nat} {kk : IntKind} (hi : i < 8) (W : World) : (Instr.indexAt 123 (.pointer (some ⟨b, 0, none⟩)) (.int kk ((i : Nat) : Int))).run Try.prog W = .ok (.pointer (some ⟨b, i, none⟩)) W := by
  have he : Try.prog.elem 123 = 120 := by simp [Program.elem, u_arr]
  have hl : Try.prog.arrayLen 123 = 8 := by simp [Program.arrayLen, u_arr]
  have ha : (⟨b, 0, none⟩ : Addr).add i = ⟨b, i, none⟩ := by unfold Addr.add; split <;> simp_all
  rw [run_indexAt_array (h := by rw [he, hl]; exact u_arr), hl, if_pos ⟨by omega, by omega⟩, he, sz_u32]
  simp [ha]
theorem Kp.word {b i : Nat} {l : List Nat} {t : TypeId} {W : World} (h : Kp b (wordsA l) t W) (hi : i < l.length) : (Instr.loadAt 120 (.pointer (some ⟨b, i, none⟩))).run Try.prog W = .ok (u32V (l.getD i 0)) W :=
  run_load1 agg_u32 (h.cell (wordsA_get hi))
theorem Kp.setWord {b i x : Nat} {l : List Nat} {t : TypeId} {W : World} (h : Kp b (wordsA l) t W) (hi : i < l.length) : (Instr.storeAt 120 (.pointer (some ⟨b, i, none⟩)) (u32V x)).run Try.prog W = .ok () (W.setCell ⟨b, i, none⟩ (u32V x)) ∧ Kp b (wordsA (l.set i x)) t (W.setCell ⟨b, i, none⟩ (u32V x)) := by
  refine ⟨run_store1 sz_u32 rfl rfl (h.cell (wordsA_get hi)) h.frozen, ?_⟩
  rw [← wordsA_set]
  exact h.set _
end Go.Proofs.Ytcncgkkilgmphaa

set_option linter.unusedVariables false
set_option linter.unusedSimpArgs false
namespace Go.Proofs.Ytcncgkkilgmphaa
open Go Go.RowKit

def wsl (b n : Nat) : Value := .slice (some ⟨b, 0, none⟩) n n
structure ShSt (w0 W : World) (mv : Value) (hb wb : Nat) (m : List UInt8) (hl ws : List Nat) : Prop where
  e : Ext w0 W
  m : OwnB w0 W mv m
  kh : Kp hb (wordsA hl) 120 W
  kw : Kp wb (wordsA ws) 120 W
  ne : hb ≠ wb
  gh : w0.heap.size ≤ hb
  gw : w0.heap.size ≤ wb
  lh : hl.length = 8
  lw : ws.length = 64
section
variable {w0 W W' : World} {mv : Value} {hb wb : Nat} {m : List UInt8} {hl ws : List Nat}
theorem ShSt.ext (h : ShSt w0 W mv hb wb m hl ws) (hE : Ext W W') : ShSt w0 W' mv hb wb m hl ws := ⟨h.e.trans hE, h.m.ext hE, h.kh.ext hE, h.kw.ext hE, h.ne, h.gh, h.gw, h.lh, h.lw⟩
theorem ShSt.setW (h : ShSt w0 W mv hb wb m hl ws) {i : Nat} (hi : i < 64) (x : Nat) : ShSt w0 (W.setCell ⟨wb, i, none⟩ (u32V x)) mv hb wb m hl (ws.set i x) := by
  have hm := Mod.setCell W wb i (u32V x)
  exact ⟨Mod.ext h.e hm fun k hk => by cases hk; exact h.gw, Own.kept h.m hm (.inr (Ne.symm (h.m.ne h.kw (by decide)))), h.kh.mod hm fun e => h.ne (by cases e; rfl), (h.kw.setWord (by rw [h.lw]; exact hi)).2, h.ne, h.gh, h.gw, h.lh, by simp [h.lw]⟩
theorem ShSt.setH (h : ShSt w0 W mv hb wb m hl ws) {i : Nat} (hi : i < 8) (x : Nat) : ShSt w0 (W.setCell ⟨hb, i, none⟩ (u32V x)) mv hb wb m (hl.set i x) ws := by
  have hm := Mod.setCell W hb i (u32V x)
  exact ⟨Mod.ext h.e hm fun k hk => by cases hk; exact h.gh, Own.kept h.m hm (.inr (Ne.symm (h.m.ne h.kh (by decide)))), (h.kh.setWord (by rw [h.lh]; exact hi)).2, h.kw.mod hm fun e => h.ne (by cases e; rfl), h.ne, h.gh, h.gw, by simp [h.lh], h.lw⟩
theorem ShSt.other {b : Nat} {cs : Array Value} (h : ShSt w0 W mv hb wb m hl ws) (hk : Kp b cs 123 W) (hg : w0.heap.size ≤ b) (hm : Mod (some b) W W') : ShSt w0 W' mv hb wb m hl ws :=
  ⟨Mod.ext h.e hm fun k hk => by cases hk; exact hg, Own.kept h.m hm (.inr (Ne.symm (h.m.ne hk (by decide)))), h.kh.mod hm fun e => h.kh.ne hk (by decide) (by cases e; rfl), h.kw.mod hm fun e => h.kw.ne hk (by decide) (by cases e; rfl), h.ne, h.gh, h.gw, h.lh, h.lw⟩
theorem ShSt.at (h : ShSt w0 W mv hb wb m hl ws) : At w0 W W := ⟨Nat.le_refl _, h.e⟩
end
theorem getE_getD {m : List UInt8} {i : Nat} (h : i < m.length) : m[i]? = some (m.getD i 0) := by simp [List.getD, h]
section
variable {w0 W : World} {mv : Value} {hb wb : Nat} {m : List UInt8} {hl ws : List Nat}
theorem region72_19 {p i : Nat} {J : VF 0} (h : ShSt w0 W mv hb wb m hl ws) (hp : p + 4 ≤ m.length) (hi : i < 64)
    (hml : m.length ≤ 1099511627776) (hJ : ∀ W', ShSt w0 W' mv hb wb m hl (ws.set i (word (m.getD p 0).toNat (m.getD (p + 1) 0).toNat (m.getD (p + 2) 0).toNat (m.getD (p + 3) 0).toNat)) → J W') :
    DrawP Try.prog 305 (opsOf Try.f72 19) [5, 8, 10, 11] [mv, wsl wb 64, .int .i64 i, .int .i64 p] [] J W := by
  obtain ⟨q0, a0, b0⟩ := run_byteAt (W := W) (kk := .i64) h.m.row (getE_getD (i := p) (by omega))
  obtain ⟨q1, a1, b1⟩ := run_byteAt (W := W) (kk := .i64) h.m.row (getE_getD (i := p + 1) (by omega))
  obtain ⟨q2, a2, b2⟩ := run_byteAt (W := W) (kk := .i64) h.m.row (getE_getD (i := p + 2) (by omega))
  obtain ⟨q3, a3, b3⟩ := run_byteAt (W := W) (kk := .i64) h.m.row (getE_getD (i := p + 3) (by omega))
  have l0 := (m.getD p 0).toNat_lt
  have l1 := (m.getD (p + 1) 0).toNat_lt
  have l2 := (m.getD (p + 2) 0).toNat_lt
  have l3 := (m.getD (p + 3) 0).toNat_lt
  have s0 : ((m.getD p 0).toNat <<< 24) % 4294967296 = (m.getD p 0).toNat <<< 24 := by rw [Nat.shiftLeft_eq]; omega
  have s1 : ((m.getD (p + 1) 0).toNat <<< 16) % 4294967296 = (m.getD (p + 1) 0).toNat <<< 16 := by rw [Nat.shiftLeft_eq]; omega
  have s2 : ((m.getD (p + 2) 0).toNat <<< 8) % 4294967296 = (m.getD (p + 2) 0).toNat <<< 8 := by rw [Nat.shiftLeft_eq]; omega
  have z0 : (m.getD p 0).toNat <<< 24 < 4294967296 := by rw [Nat.shiftLeft_eq]; omega
  have z1 : (m.getD (p + 1) 0).toNat <<< 16 < 4294967296 := by rw [Nat.shiftLeft_eq]; omega
  have z2 : (m.getD (p + 2) 0).toNat <<< 8 < 4294967296 := by rw [Nat.shiftLeft_eq]; omega
  refine h72_19 w0 (fun k W' => if k = 0 then ShSt w0 W' mv hb wb m hl ws ∧ Ext W W' else ShSt w0 W' mv hb wb m hl (ws.set i (word (m.getD p 0).toNat (m.getD (p + 1) 0).toNat (m.getD (p + 2) 0).toNat (m.getD (p + 3) 0).toNat))) h.e ⟨h.ext (Ext.drawn W), Ext.drawn W⟩ ?_
  have hc : ∀ {W'}, Stg w0 W (fun k W' => if k = 0 then ShSt w0 W' mv hb wb m hl ws ∧ Ext W W' else ShSt w0 W' mv hb wb m hl (ws.set i (word (m.getD p 0).toNat (m.getD (p + 1) 0).toNat (m.getD (p + 2) 0).toNat (m.getD (p + 3) 0).toNat))) 0 0 W' → Ext W W' := fun hS => by
    obtain ⟨_, k, _, hk, hC⟩ := hS
    have : k = 0 := by omega
    subst this
    exact hC.2
  refine qx a0 (qc (fun W' hS => b0 W' (hc hS)) (qx (run_conv8_32 _) (qx (run_shl32 (k := 24) (by omega)) ?_)))
  rw [s0]
  refine qx (fun W => run_add (by omega) (by omega) W) ?_
  rw [show ((p : Int) + 1) = ((p + 1 : Nat) : Int) by omega]
  refine qx a1 (qc (fun W' hS => b1 W' (hc hS)) (qx (run_conv8_32 _) (qx (run_shl32 (k := 16) (by omega)) ?_)))
  rw [s1]
  refine qx (run_or32 z0 z1) (qx (fun W => run_add (by omega) (by omega) W) ?_)
  rw [show ((p : Int) + 2) = ((p + 2 : Nat) : Int) by omega]
  refine qx a2 (qc (fun W' hS => b2 W' (hc hS)) (qx (run_conv8_32 _) (qx (run_shl32 (k := 8) (by omega)) ?_)))
  rw [s2]
  refine qx (run_or32 (Nat.or_lt_two_pow (n := 32) z0 z1) z2) (qx (fun W => run_add (by omega) (by omega) W) ?_)
  rw [show ((p : Int) + 3) = ((p + 3 : Nat) : Int) by omega]
  refine qx a3 (qc (fun W' hS => b3 W' (hc hS)) (qx (run_conv8_32 _) (qx (run_or32 (Nat.or_lt_two_pow (n := 32) (Nat.or_lt_two_pow (n := 32) z0 z1) z2) (by omega)) (qx (run_wAt hi) ⟨?_, ?_⟩))))
  · intro W1 hA hC
    have hS : ShSt w0 W1 mv hb wb m hl ws := hC.1
    have h2 := hS.setW hi (word (m.getD p 0).toNat (m.getD (p + 1) 0).toNat (m.getD (p + 2) 0).toNat (m.getD (p + 3) 0).toNat)
    exact does_of (hS.kw.setWord (by rw [hS.lw]; exact hi)).1 ⟨⟨(Mod.setCell W1 wb i _).size, h2.e⟩, h2, trivial, trivial⟩
  · intro W1 hA hC
    exact hJ W1 hC
def s0F (x : Nat) : Nat := (trn x 7 ^^^ trn x 18) ^^^ x >>> 3
def s1F (y : Nat) : Nat := (trn y 17 ^^^ trn y 19) ^^^ y >>> 10
theorem shr_lt {x n : Nat} (hx : x < 4294967296) : x >>> n < 4294967296 := Nat.lt_of_le_of_lt (by rw [Nat.shiftRight_eq_div_pow]; exact Nat.div_le_self _ _) hx
theorem xor_lt {a b : Nat} (ha : a < 4294967296) (hb : b < 4294967296) : a ^^^ b < 4294967296 := Nat.xor_lt_two_pow (n := 32) ha hb
theorem qturn {w W : World} {x n : Nat} {k : Value → World → Prop} (hx : x < 4294967296) (hn : n < 32) (hn0 : 0 < n) (hk : k (u32V (trn x n)) w) : QCall Try.prog (Ext W) 93 #[u32V x, .int .i64 n] w k :=
  qcall_of _ (fun W1 hW => (turn_spec hx hn hn0).mono fun v W2 ⟨h1, h2⟩ => ⟨h1, Ext.trans hW h2⟩) hk
theorem region72_23 {i : Nat} {J : VF 1} (h : ShSt w0 W mv hb wb m hl ws) (hi : i < 64) (h16 : 16 ≤ i) (hw : ∀ x ∈ ws, x < 4294967296) (hJ : ∀ W', Ext W W' → J (u32V (s0F (ws.getD (i - 15) 0))) W') :
    DrawP Try.prog 305 (opsOf Try.f72 23) [8, 12] [wsl wb 64, .int .i64 i] [13] J W := by
  have hx := getD_lt hw (i - 15)
  refine q72_23 (Ext W) (Ext.drawn _) fun _ => ?_
  have hsub : ∀ W' : World, (binOp .sub 3 (.int .i64 i) (.int .i64 15)).run Try.prog W' = .ok (.int .i64 ((i - 15 : Nat) : Int)) W' := fun W' => by rw [run_sub (by omega) (by omega)]; congr 2; omega
  have hld : ∀ W', Ext W W' → (Instr.loadAt 120 (.pointer (some ⟨wb, i - 15, none⟩))).run Try.prog W' = .ok (u32V (ws.getD (i - 15) 0)) W' := fun W' hW => (h.kw.ext hW).word (by rw [h.lw]; omega)
  refine qx hsub (qx (run_wAt (by omega)) (qc hld (qturn (n := 7) hx (by omega) (by omega) ?_)))
  refine qx hsub (qx (run_wAt (by omega)) (qc hld (qturn (n := 18) hx (by omega) (by omega) ?_)))
  refine qx (run_xor32 (trn_lt hx) (trn_lt hx)) (qx hsub (qx (run_wAt (by omega)) (qc hld (qx (run_shr32 (k := 3) (by omega)) (qx (run_xor32 (xor_lt (trn_lt hx) (trn_lt hx)) (shr_lt hx)) ?_)))))
  exact hJ
theorem region72_24 {i : Nat} {J : VF 1} (h : ShSt w0 W mv hb wb m hl ws) (hi : i < 64) (h16 : 16 ≤ i) (hw : ∀ x ∈ ws, x < 4294967296) (hJ : ∀ W', Ext W W' → J (u32V (s1F (ws.getD (i - 2) 0))) W') :
    DrawP Try.prog 305 (opsOf Try.f72 24) [8, 12] [wsl wb 64, .int .i64 i] [14] J W := by
  have hx := getD_lt hw (i - 2)
  refine q72_24 (Ext W) (Ext.drawn _) fun _ => ?_
  have hsub : ∀ W' : World, (binOp .sub 3 (.int .i64 i) (.int .i64 2)).run Try.prog W' = .ok (.int .i64 ((i - 2 : Nat) : Int)) W' := fun W' => by rw [run_sub (by omega) (by omega)]; congr 2; omega
  have hld : ∀ W', Ext W W' → (Instr.loadAt 120 (.pointer (some ⟨wb, i - 2, none⟩))).run Try.prog W' = .ok (u32V (ws.getD (i - 2) 0)) W' := fun W' hW => (h.kw.ext hW).word (by rw [h.lw]; omega)
  refine qx hsub (qx (run_wAt (by omega)) (qc hld (qturn (n := 17) hx (by omega) (by omega) ?_)))
  refine qx hsub (qx (run_wAt (by omega)) (qc hld (qturn (n := 19) hx (by omega) (by omega) ?_)))
  refine qx (run_xor32 (trn_lt hx) (trn_lt hx)) (qx hsub (qx (run_wAt (by omega)) (qc hld (qx (run_shr32 (k := 10) (by omega)) (qx (run_xor32 (xor_lt (trn_lt hx) (trn_lt hx)) (shr_lt hx)) ?_)))))
  exact hJ
theorem region72_25 {i x y : Nat} {J : VF 0} (h : ShSt w0 W mv hb wb m hl ws) (hi : i < 64) (h16 : 16 ≤ i)
    (hJ : ∀ W', ShSt w0 W' mv hb wb m hl (ws.set i ((((ws.getD (i - 16) 0 + x) % 4294967296 + ws.getD (i - 7) 0) % 4294967296 + y) % 4294967296)) → J W') :
    DrawP Try.prog 305 (opsOf Try.f72 25) [8, 12, 13, 14] [wsl wb 64, .int .i64 i, u32V x, u32V y] [] J W := by
  refine h72_25 w0 (fun k W' => if k = 0 then ShSt w0 W' mv hb wb m hl ws else ShSt w0 W' mv hb wb m hl (ws.set i ((((ws.getD (i - 16) 0 + x) % 4294967296 + ws.getD (i - 7) 0) % 4294967296 + y) % 4294967296))) h.e (h.ext (Ext.drawn W)) ?_
  have hld : ∀ {k : Nat}, k < 64 → ∀ W', Stg w0 W (fun k W' => if k = 0 then ShSt w0 W' mv hb wb m hl ws else ShSt w0 W' mv hb wb m hl (ws.set i ((((ws.getD (i - 16) 0 + x) % 4294967296 + ws.getD (i - 7) 0) % 4294967296 + y) % 4294967296))) 0 0 W' → (Instr.loadAt 120 (.pointer (some ⟨wb, k, none⟩))).run Try.prog W' = .ok (u32V (ws.getD k 0)) W' := fun {k} hk W' hS => by
    obtain ⟨_, k', _, hk', hC⟩ := hS
    have : k' = 0 := by omega
    subst this
    have hS : ShSt w0 W' mv hb wb m hl ws := hC
    exact hS.kw.word (by rw [hS.lw]; exact hk)
  have hsub : ∀ (k : Nat) (hk : k ≤ i) (W' : World), (binOp .sub 3 (.int .i64 i) (.int .i64 (k : Int))).run Try.prog W' = .ok (.int .i64 ((i - k : Nat) : Int)) W' := fun k hk W' => by rw [run_sub (by omega) (by omega)]; congr 2; omega
  refine qx (hsub 16 h16) (qx (run_wAt (by omega)) (qc (hld (by omega)) (qx (run_add32 _ _) (qx (hsub 7 (by omega)) (qx (run_wAt (by omega)) (qc (hld (by omega)) (qx (run_add32 _ _) (qx (run_add32 _ _) (qx (run_wAt hi) ⟨?_, ?_⟩)))))))))
  · intro W1 hA hC
    have hS : ShSt w0 W1 mv hb wb m hl ws := hC
    have h2 := hS.setW hi ((((ws.getD (i - 16) 0 + x) % 4294967296 + ws.getD (i - 7) 0) % 4294967296 + y) % 4294967296)
    exact does_of (hS.kw.setWord (by rw [hS.lw]; exact hi)).1 ⟨⟨(Mod.setCell W1 wb i _).size, h2.e⟩, h2, trivial, trivial⟩
  · exact fun W1 hA hC => hJ W1 hC
/-! ### a round -/
theorem octW (v : Oct) : v.l.length = 8 := rfl
section
variable {vb : Nat} {v : Oct}
theorem vld (hv : Kp vb (wordsA v.l) 123 W) {i : Nat} (hi : i < 8) : ∀ W', Ext W W' → (Instr.loadAt 120 (.pointer (some ⟨vb, i, none⟩))).run Try.prog W' = .ok (u32V (v.l.getD i 0)) W' := fun W' hW => (hv.ext hW).word (by rw [octW]; exact hi)
theorem region72_31 {J : VF 1} (hv : Kp vb (wordsA v.l) 123 W) (hok : v.Ok) (hJ : ∀ W', Ext W W' → J (u32V ((trn v.e 6 ^^^ trn v.e 11) ^^^ trn v.e 25)) W') :
    DrawP Try.prog 305 (opsOf Try.f72 31) [15] [.pointer (some ⟨vb, 0, none⟩)] [17] J W := by
  refine q72_31 (Ext W) (Ext.drawn _) fun _ => ?_
  have he := hok.e
  refine qx (run_vAt (i := 4) (by omega)) (qc (vld hv (by omega)) (qturn (n := 6) he (by omega) (by omega) ?_))
  refine qx (run_vAt (i := 4) (by omega)) (qc (vld hv (by omega)) (qturn (n := 11) he (by omega) (by omega) (qx (run_xor32 (trn_lt he) (trn_lt he)) ?_)))
  refine qx (run_vAt (i := 4) (by omega)) (qc (vld hv (by omega)) (qturn (n := 25) he (by omega) (by omega) (qx (run_xor32 (xor_lt (trn_lt he) (trn_lt he)) (trn_lt he)) ?_)))
  exact hJ
theorem region72_34 {J : VF 1} (hv : Kp vb (wordsA v.l) 123 W) (hok : v.Ok) (hJ : ∀ W', Ext W W' → J (u32V ((trn v.a 2 ^^^ trn v.a 13) ^^^ trn v.a 22)) W') :
    DrawP Try.prog 305 (opsOf Try.f72 34) [15] [.pointer (some ⟨vb, 0, none⟩)] [20] J W := by
  refine q72_34 (Ext W) (Ext.drawn _) fun _ => ?_
  have he := hok.a
  refine qx (run_vAt (i := 0) (by omega)) (qc (vld hv (by omega)) (qturn (n := 2) he (by omega) (by omega) ?_))
  refine qx (run_vAt (i := 0) (by omega)) (qc (vld hv (by omega)) (qturn (n := 13) he (by omega) (by omega) (qx (run_xor32 (trn_lt he) (trn_lt he)) ?_)))
  refine qx (run_vAt (i := 0) (by omega)) (qc (vld hv (by omega)) (qturn (n := 22) he (by omega) (by omega) (qx (run_xor32 (xor_lt (trn_lt he) (trn_lt he)) (trn_lt he)) ?_)))
  exact hJ
theorem region72_33 {J : VF 1} {kv : Value} {i x y : Nat} (h : ShSt w0 W mv hb wb m hl ws) (hv : Kp vb (wordsA v.l) 123 W) (hk : Row w0 kv (wordsV kK)) (hi : i < 64)
    (hJ : ∀ W', Ext W W' → J (u32V (((((v.h + x) % 4294967296 + y) % 4294967296 + kK.getD i 0) % 4294967296 + ws.getD i 0) % 4294967296)) W') :
    DrawP Try.prog 305 (opsOf Try.f72 33) [3, 8, 15, 16, 17, 18] [kv, wsl wb 64, .pointer (some ⟨vb, 0, none⟩), .int .i64 i, u32V x, u32V y] [19] J W := by
  refine q72_33 (Ext W) (Ext.drawn _) fun _ => ?_
  have hkl : (wordsV kK).length = 64 := rfl
  have hkg : (wordsV kK)[i]'(by rw [hkl]; exact hi) = u32V (kK.getD i 0) := by
    have : i < kK.length := hi
    simp [wordsV, List.getD, this]
  refine qx (run_vAt (i := 7) (by omega)) (qc (vld hv (by omega)) (qx (run_add32 _ _) (qx (run_add32 _ _) ?_)))
  refine q_index (hk.ext h.e) u_words sz_u32 (by rw [hkl]; exact hi) fun p hp => q_load agg_u32 hp ?_
  rw [hkg]
  refine qx (run_add32 _ _) (qx (run_wAt hi) (qc (fun W' hW => (h.kw.ext hW).word (by rw [h.lw]; exact hi)) (qx (run_add32 _ _) ?_)))
  exact hJ
end
/-! ### the ends -/
theorem region72_40 {vb i : Nat} {v : Oct} {J : VF 0} (h : ShSt w0 W mv hb wb m hl ws) (hv : Kp vb (wordsA v.l) 123 W) (hg : w0.heap.size ≤ vb) (hi : i < 8)
    (hJ : ∀ W', ShSt w0 W' mv hb wb m (hl.set i ((hl.getD i 0 + v.l.getD i 0) % 4294967296)) ws → Kp vb (wordsA v.l) 123 W' → J W') :
    DrawP Try.prog 305 (opsOf Try.f72 40) [4, 15, 22] [wsl hb 8, .pointer (some ⟨vb, 0, none⟩), .int .i64 i] [] J W := by
  refine h72_40 w0 (fun k W' => (if k = 0 then ShSt w0 W' mv hb wb m hl ws else ShSt w0 W' mv hb wb m (hl.set i ((hl.getD i 0 + v.l.getD i 0) % 4294967296)) ws) ∧ Kp vb (wordsA v.l) 123 W') h.e ⟨h.ext (Ext.drawn W), hv.ext (Ext.drawn W)⟩ ?_
  have hC : ∀ W', Stg w0 W (fun k W' => (if k = 0 then ShSt w0 W' mv hb wb m hl ws else ShSt w0 W' mv hb wb m (hl.set i ((hl.getD i 0 + v.l.getD i 0) % 4294967296)) ws) ∧ Kp vb (wordsA v.l) 123 W') 0 0 W' → ShSt w0 W' mv hb wb m hl ws ∧ Kp vb (wordsA v.l) 123 W' := fun W' hS => by
    obtain ⟨_, k', _, hk', hC⟩ := hS
    have : k' = 0 := by omega
    subst this
    exact hC
  refine qx (run_wAt hi) (qc (fun W' hS => (hC W' hS).1.kh.word (by rw [h.lh]; exact hi)) (qx (run_vAt hi) (qc (fun W' hS => (hC W' hS).2.word (by rw [octW]; exact hi)) (qx (run_add32 _ _) (qx (run_wAt hi) ⟨?_, ?_⟩)))))
  · intro W1 hA hC
    have hS : ShSt w0 W1 mv hb wb m hl ws := hC.1
    have h2 := hS.setH hi ((hl.getD i 0 + v.l.getD i 0) % 4294967296)
    have hm := Mod.setCell W1 hb i (u32V ((hl.getD i 0 + v.l.getD i 0) % 4294967296))
    exact does_of (hS.kh.setWord (by rw [hS.lh]; exact hi)).1 ⟨⟨hm.size, h2.e⟩, ⟨h2, hC.2.mod hm fun e => hC.2.ne hS.kh (by decide) (by cases e; rfl)⟩, trivial, trivial⟩
  · exact fun W1 hA hC => hJ W1 hC.1 hC.2
theorem run_build4 (a b c d : UInt8) (W : World) : (Instr.buildSlice 34 4 #[(0, u8V a), (1, u8V b), (2, u8V c), (3, u8V d)]).run Try.prog W = .ok (.slice (some ⟨W.heap.size, 0, none⟩) 4 4) (W.alloc (.cells #[u8V a, u8V b, u8V c, u8V d] 5)) := by
  simp [go_sem, Instr.buildSlice, u8V]
theorem own_four8 (a b c d : UInt8) (W : World) : OwnB W (W.alloc (.cells #[u8V a, u8V b, u8V c, u8V d] 5)) (.slice (some ⟨W.heap.size, 0, none⟩) 4 4) [a, b, c, d] :=
  ⟨rfl, .inr ⟨W.heap.size, 4, #[u8V a, u8V b, u8V c, u8V d], rfl, Nat.le_refl _, heap_alloc_new W _, Nat.le_refl _, by simp [maxLen], rfl, rfl⟩⟩
theorem region72_45 {i : Nat} {ov : Value} {l : List UInt8} {J : VF 1} (hE : Ext w0 W) (hk : Kp hb (wordsA hl) 120 W) (hlh : hl.length = 8) (hi : i < 8) (ho : OwnB w0 W ov l) (hll : l.length ≤ 1048576)
    (hJ : ∀ v W', Ext w0 W' → Kp hb (wordsA hl) 120 W' → OwnB w0 W' v (l ++ out4 (hl.getD i 0)) → J v W') :
    DrawP Try.prog 305 (opsOf Try.f72 45) [4, 23, 24] [wsl hb 8, ov, .int .i64 i] [23] J W := by
  refine h72_45 w0 (StK w0 hb (wordsA hl) 120 0 ov l) (FrB 0 (out4 (hl.getD i 0))) (FoB w0 1 (l ++ out4 (hl.getD i 0))) hE (FrB.st _ _) (FoB.st _ _ _) ⟨hk.ext (Ext.drawn W), fun _ => ho.ext (Ext.drawn W)⟩ ?_
  have hld : ∀ W', Stg w0 W (StK w0 hb (wordsA hl) 120 0 ov l) 0 1 W' → (Instr.loadAt 120 (.pointer (some ⟨hb, i, none⟩))).run Try.prog W' = .ok (u32V (hl.getD i 0)) W' := fun W' hS => by
    obtain ⟨_, k', _, _, hC⟩ := hS
    exact hC.1.word (by rw [hlh]; exact hi)
  have e24 : UInt8.ofNat (hl.getD i 0 >>> 24) = UInt8.ofNat (hl.getD i 0 / 2 ^ 24) := by rw [Nat.shiftRight_eq_div_pow]
  have e16 : UInt8.ofNat (hl.getD i 0 >>> 16) = UInt8.ofNat (hl.getD i 0 / 2 ^ 16) := by rw [Nat.shiftRight_eq_div_pow]
  have e8 : UInt8.ofNat (hl.getD i 0 >>> 8) = UInt8.ofNat (hl.getD i 0 / 2 ^ 8) := by rw [Nat.shiftRight_eq_div_pow]
  refine qx (run_wAt hi) (qc hld (qx (run_shr32 (k := 24) (by omega)) (qx (run_conv32_8 _) ?_)))
  refine qx (run_wAt hi) (qc hld (qx (run_shr32 (k := 16) (by omega)) (qx (run_conv32_8 _) ?_)))
  refine qx (run_wAt hi) (qc hld (qx (run_shr32 (k := 8) (by omega)) (qx (run_conv32_8 _) ?_)))
  refine qx (run_wAt hi) (qc hld (qx (run_conv32_8 _) ⟨?_, ?_, ?_⟩))
  · intro W1 hA hC
    refine does_of (run_build4 _ _ _ _ W1) ⟨ext_any _ W1, hC.ext (ext_any _ W1), fun _ => ?_⟩
    have := (own_four8 (UInt8.ofNat (hl.getD i 0 >>> 24)) (UInt8.ofNat (hl.getD i 0 >>> 16)) (UInt8.ofNat (hl.getD i 0 >>> 8)) (UInt8.ofNat (hl.getD i 0)) W1).row
    rw [show out4 (hl.getD i 0) = [UInt8.ofNat (hl.getD i 0 >>> 24), UInt8.ofNat (hl.getD i 0 >>> 16), UInt8.ofNat (hl.getD i 0 >>> 8), UInt8.ofNat (hl.getD i 0)] by rw [e24, e16, e8]; rfl]
    exact this
  · intro t W1 hA hC hF
    exact (hC.2 rfl).appendR hA.2 (hF rfl) (by simp [out4]; omega) fun v2 W2 g1 g2 g3 => ⟨⟨g3.size, g2⟩, ⟨hC.1.mod g3 ((hC.2 rfl).ne hC.1 (by decide)), vac (by omega)⟩, fun _ => g1, (by intros; exact FrB.off (by omega)), trivial⟩
  · exact fun t W1 hA hC hF => hJ t W1 hA.2 hC.1 (hF rfl)
end
end Go.Proofs.Ytcncgkkilgmphaa
