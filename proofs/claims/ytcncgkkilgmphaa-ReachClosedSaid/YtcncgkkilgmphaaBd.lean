/-
  Contracts: numbers as bytes (wire.Put, marref1.Put).
-/
import Derived.Test.YtcncgkkilgmphaaBc
set_option linter.unusedVariables false
set_option linter.unusedSimpArgs false
namespace Go.Proofs.Ytcncgkkilgmphaa
open Go Go.RowKit

theorem or128 (x : UInt8) : x ||| 128 = UInt8.ofNat (x.toNat % 128 + 128) := by
  have h : ∀ i : Fin 256, UInt8.ofNat i.val ||| 128 = UInt8.ofNat ((UInt8.ofNat i.val).toNat % 128 + 128) := by decide +kernel
  have := h ⟨x.toNat, x.toNat_lt⟩
  simpa using this
theorem b8_or (n : Nat) : b8 (n : Int) ||| 128 = UInt8.ofNat (n % 128 + 128) := by
  rw [b8_nat, or128]
  congr 1
  rw [toNat8]
  omega
theorem and127 (x : UInt8) : x &&& 127 = UInt8.ofNat (x.toNat % 128) := by
  have h : ∀ i : Fin 256, UInt8.ofNat i.val &&& 127 = UInt8.ofNat ((UInt8.ofNat i.val).toNat % 128) := by decide +kernel
  have := h ⟨x.toNat, x.toNat_lt⟩
  simpa using this
theorem u8c (n : Nat) (h : n < 256) : Value.int .u8 (n : Int) = u8V (UInt8.ofNat n) := by
  unfold u8V
  rw [toNat8]
  congr 1
  omega
structure PutSt where
  m : Nat
  v : Value
  acc : List UInt8
theorem wput_spec {w : World} {n : Nat} (hn : n < 9223372036854775808) : Call Try.prog 107 #[.int .i64 n] w fun v w' => OwnB w w' v (putL n) ∧ Ext w w' := by
  apply vc107
  unfold V107
  have hpl : (putL n).length ≤ 9 := put_length_le (k := 9) (by omega) (by omega)
  refine rounds2 (σ := PutSt) (fun s => .int .i64 s.m) (fun s => s.v) (fun s W => s.m < 9223372036854775808 ∧ Ext w W ∧ OwnB w W s.v s.acc ∧ s.acc ++ putL s.m = putL n) (fun s _ => s.m) ⟨n, .slice none 0 0, []⟩ rfl rfl ⟨hn, Ext.refl _, OwnB.nil _ _, rfl⟩ ?_
  rintro next ⟨m, v, acc⟩ W ⟨hm, hE, ho, hacc⟩ hnext _
  simp only at hm ho hacc ⊢
  have hal : acc.length ≤ 9 := by
    have := congrArg List.length hacc
    simp only [List.length_append] at this
    omega
  refine does_gt (condP_of (fun hgt => ?_) fun hle => ?_)
  · have hgt' : ¬ m < 128 := by simp at hgt; omega
    refine does_of (run_conv35 m W) ?_
    rw [show Value.int .u8 128 = u8V 128 from rfl]
    refine does_of (run_or8 _ _ W) ?_
    rw [b8_or]
    refine ho.push hE (by omega) fun v' W' h1 h2 _ => ?_
    refine does_of (run_shr64 (k := 7) (by omega) W') ?_
    exact hnext ⟨m / 128, v', acc ++ [UInt8.ofNat (m % 128 + 128)]⟩ _ _ W' rfl rfl ⟨by simp only; omega, h2, h1, by simp only; rw [List.append_assoc, ← hacc, putL_ge hgt']; rfl⟩ (by simp only; omega)
  · have hlt : m < 128 := by simp at hle; omega
    refine does_of (run_conv35 m W) ?_
    rw [b8_nat]
    refine ho.push hE (by omega) fun v' W' h1 h2 _ => ⟨?_, h2⟩
    rw [← hacc, putL_lt hlt]
    exact h1
theorem wirePut_spec {w : World} {n : Nat} (hn : n ≤ 72057594037927936) : Call Try.prog 90 #[.int .i64 n] w fun v w' => ∃ s, v = .tuple #[s, .int .i64 0] ∧ OwnB w w' s (putL n) ∧ Ext w w' := by
  apply vc90
  unfold V90
  refine does_lt ?_
  refine or_join (decide ((72057594037927936 : Int) < n)) (fun _ j hj => does_gt hj) ?_
  refine condP_of (fun h => ?_) fun _ => ?_
  · simp at h; omega
  · exact (wput_spec (by omega)).mono fun v w' ⟨h1, h2⟩ => ⟨v, rfl, h1, h2⟩
theorem number_spec {w0 w : World} {b : Value} {l : List UInt8} {n : Nat} (hn : n ≤ 72057594037927936) (ho : OwnB w0 w b l) (hE : Ext w0 w) (hl : l.length ≤ 1099511620000) :
    Call Try.prog 70 #[b, .int .i64 n] w fun v w' => OwnB w0 w' v (l ++ putL n) ∧ Ext w0 w' ∧ Mod b.ownBlock w w' := by
  apply vc70
  unfold V70
  refine (wirePut_spec hn).mono fun v w1 ⟨s, hv, h1, h2⟩ => ?_
  subst hv
  have := put_length hn
  refine ex2a (ex2b ((ho.ext h2).appendR (hE.trans h2) h1.row (by omega) fun v' W' g1 g2 g3 => ⟨g1, g2, (Mod.ofExt h2).trans g3⟩))
theorem rput_spec {w : World} {n : Nat} (hn : n ≤ 72057594037927936) : Call Try.prog 97 #[.int .i64 n] w fun v w' => ∃ s, v = .tuple #[s, .int .i64 0] ∧ OwnB w w' s (putL n) ∧ Ext w w' := by
  apply vc97
  unfold V97
  refine does_lt ?_
  refine or_join (decide ((72057594037927936 : Int) < n)) (fun _ j hj => does_gt hj) ?_
  refine condP_of (fun h => ?_) fun _ => ?_
  · simp at h; omega
  have hpl : (putL n).length ≤ 9 := put_length_le (k := 9) (by omega) (by omega)
  refine rounds2 (σ := PutSt) (fun s => .int .i64 s.m) (fun s => s.v) (fun s W => s.m < 9223372036854775808 ∧ Ext w W ∧ OwnB w W s.v s.acc ∧ s.acc ++ putL s.m = putL n) (fun s _ => s.m) ⟨n, .slice none 0 0, []⟩ rfl rfl ⟨by simp only; omega, Ext.refl _, OwnB.nil _ _, rfl⟩ ?_
  rintro next ⟨m, v, acc⟩ W ⟨hm, hE, ho, hacc⟩ hnext _
  simp only at hm ho hacc ⊢
  have hal : acc.length ≤ 9 := by
    have := congrArg List.length hacc
    simp only [List.length_append] at this
    omega
  refine does_gt (condP_of (fun hgt => ?_) fun hle => ?_)
  · have hgt' : ¬ m < 128 := by simp at hgt; omega
    have e1 : m &&& 127 = m % 128 := Nat.and_two_pow_sub_one_eq_mod m 7
    have e2 : m % 128 ||| 128 = m % 128 + 128 := by
      have := Nat.two_pow_add_eq_or_of_lt (i := 7) (b := m % 128) (by omega) 1
      rw [Nat.or_comm]
      simpa using this.symm.trans (Nat.add_comm _ _)
    refine does_of (run_and64 (b := 127) hm (by omega) W) ?_
    rw [e1]
    refine does_of (run_or64 (b := 128) (by omega) (by omega) W) ?_
    rw [e2]
    refine does_of (run_conv35 _ W) ?_
    rw [b8_nat]
    refine ho.push hE (by omega) fun v' W' h1 h2 _ => ?_
    refine does_of (run_shr64 (k := 7) (by omega) W') ?_
    exact hnext ⟨m / 128, v', acc ++ [UInt8.ofNat (m % 128 + 128)]⟩ _ _ W' rfl rfl ⟨by simp only; omega, h2, h1, by simp only; rw [List.append_assoc, ← hacc, putL_ge hgt']; rfl⟩ (by simp only; omega)
  · have hlt : m < 128 := by simp at hle; omega
    refine does_of (run_conv35 m W) ?_
    rw [b8_nat]
    refine ho.push hE (by omega) fun v' W' h1 h2 _ => ⟨v', rfl, ?_, h2⟩
    rw [← hacc, putL_lt hlt]
    exact h1
theorem num_spec {w : World} {n : Nat} (hn : n ≤ 72057594037927936) : Call Try.prog 77 #[.int .i64 n] w fun v w' => OwnB w w' v (putL n) ∧ Ext w w' := by
  apply vc77
  unfold V77
  refine (rput_spec hn).mono fun v w1 ⟨s, hv, h1, h2⟩ => ?_
  subst hv
  exact ex2a (ex2b ⟨h1, h2⟩)
end Go.Proofs.Ytcncgkkilgmphaa
