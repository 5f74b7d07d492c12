/-
  Plain law: the hash of bytes, as the document's reference reckons it.
-/
import Derived.Test.YtcncgkkilgmphaaOs
import Derived.Test.YtcncgkkilgmphaaH2
set_option linter.unusedVariables false
set_option linter.unusedSimpArgs false
namespace Go.Proofs.Ytcncgkkilgmphaa
open Go Go.RowKit

def trn (x n : Nat) : Nat := (x >>> n) ||| ((x <<< (32 - n)) % 4294967296)
def word (a b c d : Nat) : Nat := ((a <<< 24 ||| b <<< 16) ||| c <<< 8) ||| d
def nextW (w : List Nat) : Nat :=
  (((w.getD (w.length - 16) 0 + ((trn (w.getD (w.length - 15) 0) 7 ^^^ trn (w.getD (w.length - 15) 0) 18) ^^^ (w.getD (w.length - 15) 0) >>> 3)) % 4294967296 + w.getD (w.length - 7) 0) % 4294967296 +
    ((trn (w.getD (w.length - 2) 0) 17 ^^^ trn (w.getD (w.length - 2) 0) 19) ^^^ (w.getD (w.length - 2) 0) >>> 10)) % 4294967296
def extW : Nat → List Nat → List Nat
  | 0, w => w
  | k + 1, w => extW k (w ++ [nextW w])
def wordsOf (m : List UInt8) : Nat → List Nat
  | 0 => []
  | k + 1 => wordsOf m k ++ [word (m.getD (4 * k) 0).toNat (m.getD (4 * k + 1) 0).toNat (m.getD (4 * k + 2) 0).toNat (m.getD (4 * k + 3) 0).toNat]
def sched (m : List UInt8) : List Nat := extW 48 (wordsOf m 16)
def t1F (e f g h k w : Nat) : Nat :=
  ((((h + ((trn e 6 ^^^ trn e 11) ^^^ trn e 25)) % 4294967296 + ((e &&& f) ^^^ ((4294967295 ^^^ e) &&& g))) % 4294967296 + k) % 4294967296 + w) % 4294967296
def t2F (t1 a b c : Nat) : Nat := ((t1 + ((trn a 2 ^^^ trn a 13) ^^^ trn a 22)) % 4294967296 + (((a &&& b) ^^^ (a &&& c)) ^^^ (b &&& c))) % 4294967296
structure Oct where
  a : Nat
  b : Nat
  c : Nat
  d : Nat
  e : Nat
  f : Nat
  g : Nat
  h : Nat
def Oct.l (v : Oct) : List Nat := [v.a, v.b, v.c, v.d, v.e, v.f, v.g, v.h]
def rnd (k w : Nat) (v : Oct) : Oct := ⟨t2F (t1F v.e v.f v.g v.h k w) v.a v.b v.c, v.a, v.b, v.c, (v.d + t1F v.e v.f v.g v.h k w) % 4294967296, v.e, v.f, v.g⟩
def rndsF (ks ws : List Nat) : Nat → Oct → Oct
  | 0, v => v
  | n + 1, v => rnd (ks.getD n 0) (ws.getD n 0) (rndsF ks ws n v)
def addV (x y : Oct) : Oct := ⟨(x.a + y.a) % 4294967296, (x.b + y.b) % 4294967296, (x.c + y.c) % 4294967296, (x.d + y.d) % 4294967296, (x.e + y.e) % 4294967296, (x.f + y.f) % 4294967296, (x.g + y.g) % 4294967296, (x.h + y.h) % 4294967296⟩
def kK : List Nat := [1116352408, 1899447441, 3049323471, 3921009573, 961987163, 1508970993, 2453635748, 2870763221, 3624381080, 310598401, 607225278, 1426881987, 1925078388, 2162078206, 2614888103, 3248222580,
  3835390401, 4022224774, 264347078, 604807628, 770255983, 1249150122, 1555081692, 1996064986, 2554220882, 2821834349, 2952996808, 3210313671, 3336571891, 3584528711, 113926993, 338241895,
  666307205, 773529912, 1294757372, 1396182291, 1695183700, 1986661051, 2177026350, 2456956037, 2730485921, 2820302411, 3259730800, 3345764771, 3516065817, 3600352804, 4094571909, 275423344,
  430227734, 506948616, 659060556, 883997877, 958139571, 1322822218, 1537002063, 1747873779, 1955562222, 2024104815, 2227730452, 2361852424, 2428436474, 2756734187, 3204031479, 3329325298]
def h0K : Oct := ⟨1779033703, 3144134277, 1013904242, 2773480762, 1359893119, 2600822924, 528734635, 1541459225⟩
def blockS (h : Oct) (m : List UInt8) : Oct := addV h (rndsF kK (sched m) 64 h)
def blocksF (m : List UInt8) : Nat → Oct
  | 0 => h0K
  | n + 1 => blockS (blocksF m n) (m.drop (64 * n))
def lenB (n : Nat) : List UInt8 := [UInt8.ofNat (n / 2 ^ 56), UInt8.ofNat (n / 2 ^ 48), UInt8.ofNat (n / 2 ^ 40), UInt8.ofNat (n / 2 ^ 32), UInt8.ofNat (n / 2 ^ 24), UInt8.ofNat (n / 2 ^ 16), UInt8.ofNat (n / 2 ^ 8), UInt8.ofNat n]
def padL (l : List UInt8) : List UInt8 := (l ++ [128]) ++ List.replicate ((119 - l.length % 64) % 64) 0 ++ lenB (l.length * 8)
def out4 (x : Nat) : List UInt8 := [UInt8.ofNat (x / 2 ^ 24), UInt8.ofNat (x / 2 ^ 16), UInt8.ofNat (x / 2 ^ 8), UInt8.ofNat x]
def sumL (l : List UInt8) : List UInt8 := (blocksF (padL l) ((padL l).length / 64)).l.flatMap out4
theorem sumL_length (l : List UInt8) : (sumL l).length = 32 := by simp [sumL, Oct.l, out4]
def idOf (l : List UInt8) : ByteArray := hexS (sumL l)
theorem padL_length (l : List UInt8) : (padL l).length % 64 = 0 := by
  simp only [padL, lenB, List.length_append, List.length_cons, List.length_nil, List.length_replicate]
  omega
/-! ### bounds -/
theorem trn_lt {x n : Nat} (hx : x < 4294967296) : trn x n < 4294967296 := by
  unfold trn
  refine Nat.or_lt_two_pow (n := 32) ?_ (Nat.mod_lt _ (by omega))
  exact Nat.lt_of_le_of_lt (by rw [Nat.shiftRight_eq_div_pow]; exact Nat.div_le_self _ _) hx
theorem word_lt {a b c d : Nat} (ha : a < 256) (hb : b < 256) (hc : c < 256) (hd : d < 256) : word a b c d < 4294967296 := by
  unfold word
  simp only [Nat.shiftLeft_eq]
  refine Nat.or_lt_two_pow (n := 32) (Nat.or_lt_two_pow (Nat.or_lt_two_pow ?_ ?_) ?_) ?_ <;> omega
theorem getD_lt {w : List Nat} (h : ∀ x ∈ w, x < 4294967296) (i : Nat) : w.getD i 0 < 4294967296 := by
  rw [List.getD_eq_getElem?_getD]
  cases hx : w[i]? with
  | none => simp
  | some x => exact h x (List.mem_of_getElem? hx)
theorem nextW_lt (w : List Nat) : nextW w < 4294967296 := Nat.mod_lt _ (by omega)
theorem extW_lt : ∀ (k : Nat) (w : List Nat), (∀ x ∈ w, x < 4294967296) → ∀ x ∈ extW k w, x < 4294967296
  | 0, w, h => h
  | k + 1, w, h => extW_lt k _ fun x hx => by
    rcases List.mem_append.1 hx with hx | hx
    · exact h x hx
    · rw [List.mem_singleton.1 hx]; exact nextW_lt w
theorem extW_length : ∀ (k : Nat) (w : List Nat), (extW k w).length = w.length + k
  | 0, w => rfl
  | k + 1, w => by
    unfold extW
    rw [extW_length k]
    simp
    omega
theorem wordsOf_length (m : List UInt8) : ∀ k, (wordsOf m k).length = k
  | 0 => rfl
  | k + 1 => by simp [wordsOf, wordsOf_length m k]
theorem wordsOf_lt (m : List UInt8) : ∀ k, ∀ x ∈ wordsOf m k, x < 4294967296
  | 0, x, h => by simp [wordsOf] at h
  | k + 1, x, h => by
    unfold wordsOf at h
    rcases List.mem_append.1 h with h | h
    · exact wordsOf_lt m k x h
    · rw [List.mem_singleton.1 h]
      exact word_lt (UInt8.toNat_lt _) (UInt8.toNat_lt _) (UInt8.toNat_lt _) (UInt8.toNat_lt _)
theorem sched_length (m : List UInt8) : (sched m).length = 64 := by unfold sched; rw [extW_length, wordsOf_length]
theorem sched_lt (m : List UInt8) : ∀ x ∈ sched m, x < 4294967296 := extW_lt _ _ (wordsOf_lt m 16)
structure Oct.Ok (v : Oct) : Prop where
  a : v.a < 4294967296
  b : v.b < 4294967296
  c : v.c < 4294967296
  d : v.d < 4294967296
  e : v.e < 4294967296
  f : v.f < 4294967296
  g : v.g < 4294967296
  h : v.h < 4294967296
theorem rnd_ok {k w : Nat} {v : Oct} (h : v.Ok) : (rnd k w v).Ok := ⟨Nat.mod_lt _ (by omega), h.a, h.b, h.c, Nat.mod_lt _ (by omega), h.e, h.f, h.g⟩
theorem rndsF_ok {ks ws : List Nat} {v : Oct} (h : v.Ok) : ∀ n, (rndsF ks ws n v).Ok
  | 0 => h
  | n + 1 => rnd_ok (rndsF_ok h n)
theorem addV_ok (x y : Oct) : (addV x y).Ok := ⟨Nat.mod_lt _ (by omega), Nat.mod_lt _ (by omega), Nat.mod_lt _ (by omega), Nat.mod_lt _ (by omega), Nat.mod_lt _ (by omega), Nat.mod_lt _ (by omega), Nat.mod_lt _ (by omega), Nat.mod_lt _ (by omega)⟩
theorem h0K_ok : h0K.Ok := ⟨by decide, by decide, by decide, by decide, by decide, by decide, by decide, by decide⟩
theorem blocksF_ok (m : List UInt8) : ∀ n, (blocksF m n).Ok
  | 0 => h0K_ok
  | n + 1 => addV_ok _ _
theorem kK_lt : ∀ x ∈ kK, x < 4294967296 := by decide
example : hexS (sumL [97, 98, 99]) = mkS [98, 97, 55, 56, 49, 54, 98, 102, 56, 102, 48, 49, 99, 102, 101, 97, 52, 49, 52, 49, 52, 48, 100, 101, 53, 100, 97, 101, 50, 50, 50, 51, 98, 48, 48, 51, 54, 49, 97, 51, 57, 54, 49, 55, 55, 97, 57, 99, 98, 52, 49, 48, 102, 102, 54, 49, 102, 50, 48, 48, 49, 53, 97, 100] := by kernel_rfl
end Go.Proofs.Ytcncgkkilgmphaa
