/-
  Plain law: hexadecimal texts, numbers as bytes.
-/
import Derived.KernelRfl
set_option linter.unusedVariables false
set_option linter.unusedSimpArgs false
namespace Go.Proofs.Ytcncgkkilgmphaa

/-! ### texts -/
def mkS (l : List UInt8) : ByteArray := ⟨l.toArray⟩
def bs (s : ByteArray) : List UInt8 := s.data.toList
@[simp] theorem bs_mkS (l : List UInt8) : bs (mkS l) = l := by simp [bs, mkS]
@[simp] theorem mkS_bs (s : ByteArray) : mkS (bs s) = s := by cases s; simp [bs, mkS]
theorem bs_inj {a b : ByteArray} (h : bs a = bs b) : a = b := by rw [← mkS_bs a, h, mkS_bs]
theorem bs_length (s : ByteArray) : (bs s).length = s.size := by cases s; simp [bs, ByteArray.size]
theorem size_mkS (l : List UInt8) : (mkS l).size = l.length := by rw [← bs_length, bs_mkS]

/-! ### hexadecimal -/
def dg (n : Nat) : UInt8 := if n < 10 then UInt8.ofNat (48 + n) else UInt8.ofNat (87 + n)
def dv (c : UInt8) : Option Nat := if 48 ≤ c.toNat ∧ c.toNat ≤ 57 then some (c.toNat - 48) else if 97 ≤ c.toNat ∧ c.toNat ≤ 102 then some (c.toNat - 87) else none
def hexL : List UInt8 → List UInt8
  | [] => []
  | b :: l => dg (b.toNat / 16) :: dg (b.toNat % 16) :: hexL l
def unhexL : List UInt8 → Option (List UInt8)
  | [] => some []
  | [_] => none
  | a :: b :: l => match dv a, dv b with
    | some h, some k => (unhexL l).map (UInt8.ofNat (16 * h + k) :: ·)
    | _, _ => none
theorem dv_dg {n : Nat} (h : n < 16) : dv (dg n) = some n := by
  have : ∀ m : Fin 16, dv (dg m.val) = some m.val := by decide
  exact this ⟨n, h⟩
theorem dg_dv {c : UInt8} {n : Nat} (h : dv c = some n) : dg n = c ∧ n < 16 := by
  unfold dv at h
  split at h
  · rename_i hc
    simp only [Option.some.injEq] at h
    subst h
    refine ⟨?_, by omega⟩
    unfold dg
    rw [if_pos (by omega)]
    apply UInt8.toNat_inj.1
    simp only [UInt8.toNat_ofNat']
    omega
  · split at h
    · rename_i hc
      simp only [Option.some.injEq] at h
      subst h
      refine ⟨?_, by omega⟩
      unfold dg
      rw [if_neg (by omega)]
      apply UInt8.toNat_inj.1
      simp only [UInt8.toNat_ofNat']
      omega
    · cases h
theorem hexL_length : ∀ l : List UInt8, (hexL l).length = 2 * l.length
  | [] => rfl
  | b :: l => by simp [hexL, hexL_length l]; omega
theorem unhex_hex : ∀ l : List UInt8, unhexL (hexL l) = some l
  | [] => rfl
  | b :: l => by
    have := b.toNat_lt
    simp only [hexL, unhexL, dv_dg (show b.toNat / 16 < 16 by omega), dv_dg (show b.toNat % 16 < 16 by omega), unhex_hex l, Option.map_some, Option.some.injEq, List.cons.injEq, and_true]
    apply UInt8.toNat_inj.1
    simp only [UInt8.toNat_ofNat']
    omega
theorem hex_unhex : ∀ (s l : List UInt8), unhexL s = some l → hexL l = s
  | [], l, h => by simp [unhexL] at h; subst h; rfl
  | [_], l, h => by simp [unhexL] at h
  | a :: b :: s, l, h => by
    unfold unhexL at h
    cases ha : dv a with
    | none => simp [ha] at h
    | some x =>
      cases hb : dv b with
      | none => simp [ha, hb] at h
      | some y =>
        simp only [ha, hb, Option.map_eq_some_iff] at h
        obtain ⟨m, hm, rfl⟩ := h
        obtain ⟨h1, h2⟩ := dg_dv ha
        obtain ⟨h3, h4⟩ := dg_dv hb
        have h5 : (UInt8.ofNat (16 * x + y)).toNat = 16 * x + y := by simp only [UInt8.toNat_ofNat']; omega
        simp only [hexL, h5, hex_unhex s m hm]
        rw [show (16 * x + y) / 16 = x by omega, show (16 * x + y) % 16 = y by omega, h1, h3]
/-- a text of a hash -/
def Valid (s : ByteArray) : Prop := ∃ l, unhexL (bs s) = some l ∧ l.length = 32
/-- its bytes -/
def rawL (s : ByteArray) : List UInt8 := (unhexL (bs s)).getD []
def hexS (l : List UInt8) : ByteArray := mkS (hexL l)
theorem Valid.raw {s : ByteArray} (h : Valid s) : (rawL s).length = 32 ∧ hexS (rawL s) = s := by
  obtain ⟨l, h1, h2⟩ := h
  unfold rawL hexS
  rw [h1]
  refine ⟨h2, ?_⟩
  rw [Option.getD_some, hex_unhex _ _ h1, mkS_bs]
theorem raw_hex (l : List UInt8) : rawL (hexS l) = l := by simp [rawL, hexS, unhex_hex]
theorem valid_hex {l : List UInt8} (h : l.length = 32) : Valid (hexS l) := ⟨l, by simp [hexS, unhex_hex], h⟩

/-! ### numbers -/
def putL (n : Nat) : List UInt8 := if n < 128 then [UInt8.ofNat n] else UInt8.ofNat (n % 128 + 128) :: putL (n / 128)
termination_by n
decreasing_by omega
/-- the bytes of the first number -/
def grp : List UInt8 → Option (List UInt8)
  | [] => none
  | c :: l => if c.toNat < 128 then some [c] else (grp l).map (c :: ·)
def val : List UInt8 → Nat
  | [] => 0
  | c :: l => c.toNat % 128 + 128 * val l
/-- the number that stands at the front, its bytes, an error -/
def getR (b : List UInt8) : Nat × Nat × Int :=
  match grp b with
  | none => (0, 0, 2)
  | some g => if g.length ≤ 9 ∧ val g ≤ 72057594037927936 ∧ putL (val g) = g then (val g, g.length, 0) else (0, 0, 4)
theorem putL_lt {n : Nat} (h : n < 128) : putL n = [UInt8.ofNat n] := by rw [putL, if_pos h]
theorem putL_ge {n : Nat} (h : ¬ n < 128) : putL n = UInt8.ofNat (n % 128 + 128) :: putL (n / 128) := by rw [putL, if_neg h]
theorem toNat8 (n : Nat) : (UInt8.ofNat n).toNat = n % 256 := by simp
theorem grp_put (n : Nat) (rest : List UInt8) : grp (putL n ++ rest) = some (putL n) := by
  induction n using Nat.strongRecOn with
  | _ n ih =>
    by_cases h : n < 128
    · rw [putL_lt h]
      simp only [List.cons_append, List.nil_append, grp, toNat8]
      rw [if_pos (by omega)]
    · rw [putL_ge h]
      simp only [List.cons_append, grp, toNat8]
      rw [if_neg (by omega), ih (n / 128) (by omega)]
      rfl
theorem val_put (n : Nat) : val (putL n) = n := by
  induction n using Nat.strongRecOn with
  | _ n ih =>
    by_cases h : n < 128
    · rw [putL_lt h]
      simp only [val, toNat8]
      omega
    · rw [putL_ge h]
      simp only [val, toNat8, ih (n / 128) (by omega)]
      omega
theorem put_length_le {n : Nat} : ∀ {k : Nat}, n < 128 ^ k → 0 < k → (putL n).length ≤ k := by
  induction n using Nat.strongRecOn with
  | _ n ih =>
    intro k hn hk
    by_cases h : n < 128
    · rw [putL_lt h]; exact hk
    · rw [putL_ge h]
      have hk1 : 1 < k := by
        rcases Nat.lt_or_ge 1 k with h1 | h1
        · exact h1
        · exfalso
          have : k = 1 := by omega
          subst this
          omega
      have := ih (n / 128) (by omega) (k := k - 1) (by
        have : 128 ^ k = 128 ^ (k - 1) * 128 := by rw [← Nat.pow_succ]; congr 1; omega
        rw [this] at hn
        exact Nat.div_lt_of_lt_mul (by rw [Nat.mul_comm]; exact hn)) (by omega)
      simp only [List.length_cons]
      omega
theorem put_length {n : Nat} (h : n ≤ 72057594037927936) : (putL n).length ≤ 9 := put_length_le (k := 9) (by omega) (by omega)
theorem put_pos (n : Nat) : 0 < (putL n).length := by
  rw [putL]
  split <;> simp
theorem get_put {n : Nat} (h : n ≤ 72057594037927936) (rest : List UInt8) : getR (putL n ++ rest) = (n, (putL n).length, 0) := by
  unfold getR
  simp only [grp_put, val_put]
  rw [if_pos ⟨put_length h, h, trivial⟩]
theorem grp_prefix : ∀ {b g : List UInt8}, grp b = some g → ∃ rest, b = g ++ rest
  | [], g, h => by simp [grp] at h
  | c :: l, g, h => by
    unfold grp at h
    split at h
    · simp only [Option.some.injEq] at h; subst h; exact ⟨l, rfl⟩
    · obtain ⟨m, hm, rfl⟩ := Option.map_eq_some_iff.1 h
      obtain ⟨r, hr⟩ := grp_prefix hm
      exact ⟨r, by rw [hr]; rfl⟩
theorem getR_le {b : List UInt8} : (getR b).2.1 ≤ b.length ∧ (getR b).1 ≤ 72057594037927936 ∧ (getR b).2.1 ≤ 9 := by
  unfold getR
  cases h : grp b with
  | none => simp
  | some g =>
    obtain ⟨r, hr⟩ := grp_prefix h
    simp only
    split
    · rename_i hg
      refine ⟨?_, hg.2.1, hg.1⟩
      rw [hr]; simp
    · simp
theorem getR_ok {b : List UInt8} (h : (getR b).2.2 = 0) : 0 < (getR b).2.1 := by
  unfold getR at h ⊢
  cases hg : grp b with
  | none => simp [hg] at h
  | some g =>
    simp only [hg] at h ⊢
    split at h
    · rename_i hh
      rw [if_pos hh]
      simp only
      rw [← hh.2.2]
      exact put_pos _
    · simp at h
end Go.Proofs.Ytcncgkkilgmphaa
