/-
  Contract: marref1.Sum: its loops.
-/
import Derived.Test.YtcncgkkilgmphaaSe
set_option linter.unusedVariables false
set_option linter.unusedSimpArgs false
namespace Go.Proofs.Ytcncgkkilgmphaa
open Go Go.RowKit

/-- the last loop: the words as bytes -/
theorem out_loop {w0 W : World} {hb : Nat} {v : Oct} {R : Value → World → Prop} (hE : Ext w0 W) (hk : Kp hb (wordsA v.l) 120 W) {B : VF 2 → VF 2}
    (hB : ∀ (next : VF 2) (i : Nat) (ov : Value) (l : List UInt8) (W : World), i < 8 → Ext w0 W → Kp hb (wordsA v.l) 120 W → OwnB w0 W ov l → l.length ≤ 32 → (∀ ov' W', Ext w0 W' → Kp hb (wordsA v.l) 120 W' → OwnB w0 W' ov' (l ++ out4 (v.l.getD i 0)) → next ov' (.int .i64 ((i + 1 : Nat) : Int)) W') → B next ov (.int .i64 (i : Nat)) W)
    (hend : ∀ (next : VF 2) (ov : Value) (W : World), Ext w0 W → OwnB w0 W ov (v.l.flatMap out4) → B next ov (.int .i64 ((8 : Nat) : Int)) W) : Rounds 2 B (.slice none 0 0) (.int .i64 0) W := by
  refine rounds2 (σ := OutSt) (fun s => s.v) (fun s => .int .i64 ((s.i : Nat) : Int)) (fun s W => s.i ≤ 8 ∧ Ext w0 W ∧ Kp hb (wordsA v.l) 120 W ∧ OwnB w0 W s.v ((v.l.take s.i).flatMap out4)) (fun s _ => 8 - s.i) ⟨.slice none 0 0, 0⟩ rfl rfl ⟨by simp, hE, hk, OwnB.nil _ _⟩ ?_
  rintro next ⟨ov, i⟩ W ⟨hi, hE', hk', ho⟩ hnext
  simp only at hi ho ⊢
  rcases Nat.lt_or_ge i 8 with hlt | hge
  · have hl : ((v.l.take i).flatMap out4).length ≤ 32 := by
      have := flat_le (l := v.l.take i) (f := out4) (K := 4) fun x _ => Nat.le_refl _
      have h2 : (v.l.take i).length ≤ 8 := by simp; omega
      omega
    refine hB next i ov _ W hlt hE' hk' ho hl fun ov' W' h1 h2 h3 => hnext ⟨ov', i + 1⟩ _ _ W' rfl rfl ⟨hlt, h1, h2, ?_⟩ (by simp only; omega)
    simp only
    rw [octs_get v hlt]
    exact h3
  · have : i = 8 := by omega
    subst this
    exact hend next ov W hE' ho

section
variable {w0 W : World} {mv : Value} {hb wb vb : Nat} {m : List UInt8} {hl ws : List Nat}
theorem fill_loop (mb : List UInt8) (h : ShSt w0 W mv hb wb m hl ws) (hw : ∀ x ∈ ws, x < 4294967296) {B : VF 1 → VF 1}
    (hB : ∀ (next : VF 1) (i : Nat) (ws : List Nat) (W : World), i < 16 → ShSt w0 W mv hb wb m hl ws → (∀ W', ShSt w0 W' mv hb wb m hl (ws.set i (word (mb.getD (4 * i) 0).toNat (mb.getD (4 * i + 1) 0).toNat (mb.getD (4 * i + 2) 0).toNat (mb.getD (4 * i + 3) 0).toNat)) → next (.int .i64 ((i + 1 : Nat) : Int)) W') → B next (.int .i64 (i : Nat)) W)
    (hend : ∀ (next : VF 1) (ws : List Nat) (W : World), ShSt w0 W mv hb wb m hl ws → (∀ x ∈ ws, x < 4294967296) → ws.take 16 = wordsOf mb 16 → B next (.int .i64 ((16 : Nat) : Int)) W) : Rounds 1 B (.int .i64 0) W := by
  refine rounds1 (σ := WrdSt) (fun s => .int .i64 ((s.i : Nat) : Int)) (fun s W => s.i ≤ 16 ∧ ShSt w0 W mv hb wb m hl s.ws ∧ (∀ x ∈ s.ws, x < 4294967296) ∧ s.ws.take s.i = wordsOf mb s.i) (fun s _ => 16 - s.i) ⟨0, ws⟩ rfl ⟨by simp, h, hw, rfl⟩ ?_
  rintro next ⟨i, ws⟩ W ⟨hi, hS, hx, ht⟩ hnext
  simp only at hi hS hx ht ⊢
  rcases Nat.lt_or_ge i 16 with hlt | hge
  · refine hB next i ws W hlt hS fun W' h1 => hnext ⟨i + 1, _⟩ _ W' rfl ⟨hlt, h1, set_lt hx (word_lt (UInt8.toNat_lt _) (UInt8.toNat_lt _) (UInt8.toNat_lt _) (UInt8.toNat_lt _)), ?_⟩ (by simp only; omega)
    simp only
    rw [take_set_succ (by rw [hS.lw]; omega), ht]
    rfl
  · have : i = 16 := by omega
    subst this
    exact hend next ws W hS hx ht
theorem ext_loop (mb : List UInt8) (h : ShSt w0 W mv hb wb m hl ws) (hw : ∀ x ∈ ws, x < 4294967296) (h16 : ws.take 16 = wordsOf mb 16) {B : VF 1 → VF 1}
    (hB : ∀ (next : VF 1) (i : Nat) (ws : List Nat) (W : World), 16 ≤ i → i < 64 → ShSt w0 W mv hb wb m hl ws → (∀ x ∈ ws, x < 4294967296) → (∀ W', ShSt w0 W' mv hb wb m hl (ws.set i ((((ws.getD (i - 16) 0 + s0F (ws.getD (i - 15) 0)) % 4294967296 + ws.getD (i - 7) 0) % 4294967296 + s1F (ws.getD (i - 2) 0)) % 4294967296)) → next (.int .i64 ((i + 1 : Nat) : Int)) W') → B next (.int .i64 (i : Nat)) W)
    (hend : ∀ (next : VF 1) (W : World), ShSt w0 W mv hb wb m hl (sched mb) → B next (.int .i64 ((64 : Nat) : Int)) W) : Rounds 1 B (.int .i64 16) W := by
  refine rounds1 (σ := WrdSt) (fun s => .int .i64 ((s.i : Nat) : Int)) (fun s W => 16 ≤ s.i ∧ s.i ≤ 64 ∧ ShSt w0 W mv hb wb m hl s.ws ∧ (∀ x ∈ s.ws, x < 4294967296) ∧ s.ws.take s.i = extW (s.i - 16) (wordsOf mb 16)) (fun s _ => 64 - s.i) ⟨16, ws⟩ rfl ⟨by simp, by simp, h, hw, h16⟩ ?_
  rintro next ⟨i, ws⟩ W ⟨hi0, hi, hS, hx, ht⟩ hnext
  simp only at hi0 hi hS hx ht ⊢
  rcases Nat.lt_or_ge i 64 with hlt | hge
  · refine hB next i ws W hi0 hlt hS hx fun W' h1 => hnext ⟨i + 1, _⟩ _ W' rfl ⟨by simp only; omega, hlt, h1, set_lt hx (Nat.mod_lt _ (by omega)), ?_⟩ (by simp only; omega)
    simp only
    have hl : (ws.take i).length = i := by rw [List.length_take, hS.lw]; omega
    rw [take_set_succ (by rw [hS.lw]; omega), show i + 1 - 16 = (i - 16) + 1 by omega, extW_succ, ← ht]
    unfold nextW
    rw [hl, getD_take (i := i) (j := i - 16) (by omega), getD_take (i := i) (j := i - 15) (by omega), getD_take (i := i) (j := i - 7) (by omega), getD_take (i := i) (j := i - 2) (by omega)]
    rfl
  · have : i = 64 := by omega
    subst this
    rw [List.take_of_length_le (by rw [hS.lw]; omega)] at ht
    have e : ws = sched mb := by unfold sched; exact ht
    rw [e] at hS
    exact hend next W hS
theorem add_loop (x y : Oct) (h : ShSt w0 W mv hb wb m x.l ws) (hv : Kp vb (wordsA y.l) 123 W) {B : VF 1 → VF 1}
    (hB : ∀ (next : VF 1) (i : Nat) (hl : List Nat) (W : World), i < 8 → ShSt w0 W mv hb wb m hl ws → Kp vb (wordsA y.l) 123 W → (∀ W', ShSt w0 W' mv hb wb m (hl.set i ((hl.getD i 0 + y.l.getD i 0) % 4294967296)) ws → Kp vb (wordsA y.l) 123 W' → next (.int .i64 ((i + 1 : Nat) : Int)) W') → B next (.int .i64 (i : Nat)) W)
    (hend : ∀ (next : VF 1) (W : World), ShSt w0 W mv hb wb m (addV x y).l ws → B next (.int .i64 ((8 : Nat) : Int)) W) : Rounds 1 B (.int .i64 0) W := by
  refine rounds1 (σ := Nat) (fun i => .int .i64 ((i : Nat) : Int)) (fun i W => i ≤ 8 ∧ ShSt w0 W mv hb wb m (hcur x y i) ws ∧ Kp vb (wordsA y.l) 123 W) (fun i _ => 8 - i) 0 rfl ⟨by omega, h, hv⟩ ?_
  rintro next i W ⟨hi, hS, hK⟩ hnext
  rcases Nat.lt_or_ge i 8 with hlt | hge
  · refine hB next i _ W hlt hS hK fun W' h1 h2 => hnext (i + 1) _ W' rfl ⟨hlt, ?_, h2⟩ (by omega)
    rw [← hcur_step x y hlt]
    exact h1
  · have : i = 8 := by omega
    subst this
    exact hend next W hS
end
end Go.Proofs.Ytcncgkkilgmphaa
