/-
  Contracts: names, messages, rows of bytes held against one another, copies.
-/
import Derived.Test.YtcncgkkilgmphaaBe
set_option linter.unusedVariables false
set_option linter.unusedSimpArgs false
namespace Go.Proofs.Ytcncgkkilgmphaa
open Go Go.RowKit

def NameOk (s : ByteArray) : Prop := (∀ c ∈ bs s, 33 ≤ c.toNat ∧ c.toNat ≤ 126 ∧ c ≠ 47) ∧ s ≠ { data := #[] } ∧ (bs s).length ≤ 64 ∧ s ≠ { data := #[46] } ∧ s ≠ { data := #[46, 46] }
def MsgOk (s : ByteArray) : Prop := (∀ c ∈ bs s, 32 ≤ c.toNat ∧ c.toNat ≤ 126) ∧ (bs s).length ≤ 200
theorem forall_take_succ {α : Type} {l : List α} {i : Nat} {p : α → Prop} (hi : i < l.length) (h : ∀ c ∈ l.take i, p c) (h2 : p l[i]) : ∀ c ∈ l.take (i + 1), p c := by
  intro c hc
  rw [List.take_succ_eq_append_getElem hi] at hc
  rcases List.mem_append.1 hc with hc | hc
  · exact h c hc
  · rw [List.mem_singleton.1 hc]; exact h2
theorem and3 {a b c d : Bool} {p : Prop} (h : ((((a && b) && c) && d) = true) ↔ p) : ((((a && b) && c) && d) = true) ↔ p := h
theorem size0 {s : ByteArray} : s = { data := #[] } ↔ (bs s).length = 0 := by
  constructor
  · intro h; rw [h]; rfl
  · intro h
    apply bs_inj
    rw [List.eq_nil_of_length_eq_zero h]
    rfl
theorem name_spec {w : World} {s : ByteArray} (hs : (bs s).length ≤ 1099511627776) : Call Try.prog 106 #[.string s] w fun v w' => w' = w ∧ ∃ b : Bool, v = .bool b ∧ (b = true ↔ NameOk s) := by
  apply vc106
  unfold V106
  refine does_of (run_lenStr _ w) ?_
  refine rounds1 (fun i : Nat => .int .i64 i) (fun i W => i ≤ (bs s).length ∧ W = w ∧ ∀ c ∈ (bs s).take i, 33 ≤ c.toNat ∧ c.toNat ≤ 126 ∧ c ≠ 47) (fun i _ => (bs s).length - i) 0 rfl ⟨Nat.zero_le _, rfl, by simp⟩ ?_
  rintro next i W ⟨hi, rfl, hall⟩ hnext _
  refine does_lt (condP_of (fun hlt => ?_) fun hge => ?_)
  · have hlt' : i < (bs s).length := by simpa using hlt
    have hx := List.getElem?_eq_getElem hlt'
    refine does_of (run_strAt hx W) (does_of (run_lt8 _ 33 W) ?_)
    refine or_join (decide (126 < ((bs s)[i]).toNat)) (fun _ j hj => does_of (run_strAt hx W) (does_of (run_gt8 _ 126 W) hj)) ?_
    refine or_join (decide ((bs s)[i] = 47)) (fun _ j hj => does_of (run_strAt hx W) (does_of (run_eq8 _ 47 W) hj)) ?_
    refine condP_of (fun hb => ⟨rfl, false, rfl, ?_⟩) fun hok => ?_
    · simp only [Bool.or_eq_true, decide_eq_true_eq] at hb
      refine ⟨(fun h => by cases h), fun h => ?_⟩
      obtain ⟨h1, h2, h3⟩ := h.1 _ (List.getElem_mem hlt')
      have e33 : (33 : UInt8).toNat = 33 := rfl
      rcases hb with (hb | hb) | hb
      · omega
      · omega
      · exact absurd hb h3
    · simp only [Bool.or_eq_false_iff, decide_eq_false_iff_not] at hok
      have e33 : (33 : UInt8).toNat = 33 := rfl
      exact does_add (by omega) (by omega) (hnext (i + 1) _ W (by simp) ⟨hlt', rfl, forall_take_succ hlt' hall ⟨by omega, by omega, hok.2⟩⟩ (by omega))
  · have hie : i = (bs s).length := by simp at hge; omega
    rw [hie, List.take_length] at hall
    refine does_of (run_neS W) ?_
    refine and_join (decide (((bs s).length : Int) ≤ 64)) (fun _ j hj => does_of (run_lenStr _ W) (does_le hj)) ?_
    refine and_join (!decide (s = { data := #[46] })) (fun _ j hj => does_of (run_neS W) hj) ?_
    refine and_join (!decide (s = { data := #[46, 46] })) (fun _ j hj => does_of (run_neS W) hj) ⟨rfl, _, rfl, ?_⟩
    simp only [Bool.and_eq_true, Bool.not_eq_true', decide_eq_true_eq, decide_eq_false_iff_not]
    exact ⟨fun ⟨⟨⟨h1, h2⟩, h3⟩, h4⟩ => ⟨hall, h1, by omega, h3, h4⟩, fun h => ⟨⟨⟨h.2.1, by have := h.2.2.1; omega⟩, h.2.2.2.1⟩, h.2.2.2.2⟩⟩
theorem rname_spec {w : World} {s : ByteArray} (hs : (bs s).length ≤ 1099511627776) : Call Try.prog 114 #[.string s] w fun v w' => w' = w ∧ ∃ b : Bool, v = .bool b ∧ (b = true ↔ NameOk s) := by
  apply vc114
  unfold V114
  refine does_of (run_lenStr _ w) (does_lt ?_)
  refine or_join (decide ((64 : Int) < ((bs s).length : Nat))) (fun _ j hj => does_of (run_lenStr _ w) (does_gt hj)) ?_
  refine or_join (decide (s = { data := #[46] })) (fun _ j hj => does_of (run_eqS w) hj) ?_
  refine or_join (decide (s = { data := #[46, 46] })) (fun _ j hj => does_of (run_eqS w) hj) ?_
  refine condP_of (fun hb => ⟨rfl, false, rfl, ?_⟩) fun hok => ?_
  · simp only [Bool.or_eq_true, decide_eq_true_eq] at hb
    refine ⟨(fun h => by cases h), fun h => ?_⟩
    rcases hb with ((hb | hb) | hb) | hb
    · exact absurd (size0.2 (by omega)) h.2.1
    · have := h.2.2.1; omega
    · exact absurd hb h.2.2.2.1
    · exact absurd hb h.2.2.2.2
  simp only [Bool.or_eq_false_iff, decide_eq_false_iff_not] at hok
  obtain ⟨⟨⟨k1, k2⟩, k3⟩, k4⟩ := hok
  refine rounds1 (fun i : Nat => .int .i64 i) (fun i W => i ≤ (bs s).length ∧ W = w ∧ ∀ c ∈ (bs s).take i, 33 ≤ c.toNat ∧ c.toNat ≤ 126 ∧ c ≠ 47) (fun i _ => (bs s).length - i) 0 rfl ⟨Nat.zero_le _, rfl, by simp⟩ ?_
  rintro next i W ⟨hi, rfl, hall⟩ hnext _
  refine does_of (run_lenStr _ W) (does_lt (condP_of (fun hlt => ?_) fun hge => ?_))
  · have hlt' : i < (bs s).length := by simpa using hlt
    have hx := List.getElem?_eq_getElem hlt'
    refine does_of (run_strAt hx W) (does_of (run_lt8 _ 33 W) ?_)
    refine or_join (decide (126 < ((bs s)[i]).toNat)) (fun _ j hj => does_of (run_strAt hx W) (does_of (run_gt8 _ 126 W) hj)) ?_
    refine or_join (decide ((bs s)[i] = 47)) (fun _ j hj => does_of (run_strAt hx W) (does_of (run_eq8 _ 47 W) hj)) ?_
    refine condP_of (fun hb => ⟨rfl, false, rfl, ?_⟩) fun hok => ?_
    · simp only [Bool.or_eq_true, decide_eq_true_eq] at hb
      refine ⟨(fun h => by cases h), fun h => ?_⟩
      obtain ⟨h1, h2, h3⟩ := h.1 _ (List.getElem_mem hlt')
      have e33 : (33 : UInt8).toNat = 33 := rfl
      rcases hb with (hb | hb) | hb
      · omega
      · omega
      · exact absurd hb h3
    · simp only [Bool.or_eq_false_iff, decide_eq_false_iff_not] at hok
      have e33 : (33 : UInt8).toNat = 33 := rfl
      exact does_add (by omega) (by omega) (hnext (i + 1) _ W (by simp) ⟨hlt', rfl, forall_take_succ hlt' hall ⟨by omega, by omega, hok.2⟩⟩ (by omega))
  · have hie : i = (bs s).length := by simp at hge; omega
    rw [hie, List.take_length] at hall
    refine ⟨rfl, true, rfl, fun _ => ⟨hall, fun h => ?_, by omega, k3, k4⟩, fun _ => rfl⟩
    have := size0.1 h
    omega
theorem msg_spec {w : World} {s : ByteArray} (hs : (bs s).length ≤ 1099511627776) : Call Try.prog 89 #[.string s] w fun v w' => w' = w ∧ ∃ b : Bool, v = .bool b ∧ (b = true ↔ MsgOk s) := by
  apply vc89
  unfold V89
  refine does_of (run_lenStr _ w) ?_
  refine rounds1 (fun i : Nat => .int .i64 i) (fun i W => i ≤ (bs s).length ∧ W = w ∧ ∀ c ∈ (bs s).take i, 32 ≤ c.toNat ∧ c.toNat ≤ 126) (fun i _ => (bs s).length - i) 0 rfl ⟨Nat.zero_le _, rfl, by simp⟩ ?_
  rintro next i W ⟨hi, rfl, hall⟩ hnext _
  refine does_lt (condP_of (fun hlt => ?_) fun hge => ?_)
  · have hlt' : i < (bs s).length := by simpa using hlt
    have hx := List.getElem?_eq_getElem hlt'
    have e32 : (32 : UInt8).toNat = 32 := rfl
    refine does_of (run_strAt hx W) (does_of (run_lt8 _ 32 W) ?_)
    refine or_join (decide (126 < ((bs s)[i]).toNat)) (fun _ j hj => does_of (run_strAt hx W) (does_of (run_gt8 _ 126 W) hj)) ?_
    refine condP_of (fun hb => ⟨rfl, false, rfl, ?_⟩) fun hok => ?_
    · simp only [Bool.or_eq_true, decide_eq_true_eq] at hb
      refine ⟨(fun h => by cases h), fun h => ?_⟩
      obtain ⟨h1, h2⟩ := h.1 _ (List.getElem_mem hlt')
      rcases hb with hb | hb <;> omega
    · simp only [Bool.or_eq_false_iff, decide_eq_false_iff_not] at hok
      exact does_add (by omega) (by omega) (hnext (i + 1) _ W (by simp) ⟨hlt', rfl, forall_take_succ hlt' hall ⟨by omega, by omega⟩⟩ (by omega))
  · have hie : i = (bs s).length := by simp at hge; omega
    rw [hie, List.take_length] at hall
    refine does_of (run_lenStr _ W) (does_le ⟨rfl, _, rfl, ?_⟩)
    simp only [decide_eq_true_eq]
    exact ⟨fun h => ⟨hall, by omega⟩, fun h => by have := h.2; omega⟩
theorem rmsg_spec {w : World} {s : ByteArray} (hs : (bs s).length ≤ 1099511627776) : Call Try.prog 101 #[.string s] w fun v w' => w' = w ∧ ∃ b : Bool, v = .bool b ∧ (b = true ↔ MsgOk s) := by
  apply vc101
  unfold V101
  refine rounds1 (fun i : Nat => .int .i64 i) (fun i W => i ≤ (bs s).length ∧ W = w ∧ ∀ c ∈ (bs s).take i, 32 ≤ c.toNat ∧ c.toNat ≤ 126) (fun i _ => (bs s).length - i) 0 rfl ⟨Nat.zero_le _, rfl, by simp⟩ ?_
  rintro next i W ⟨hi, rfl, hall⟩ hnext _
  refine does_of (run_lenStr _ W) (does_lt (condP_of (fun hlt => ?_) fun hge => ?_))
  · have hlt' : i < (bs s).length := by simpa using hlt
    have hx := List.getElem?_eq_getElem hlt'
    have e32 : (32 : UInt8).toNat = 32 := rfl
    refine does_of (run_strAt hx W) (does_of (run_lt8 _ 32 W) ?_)
    refine or_join (decide (126 < ((bs s)[i]).toNat)) (fun _ j hj => does_of (run_strAt hx W) (does_of (run_gt8 _ 126 W) hj)) ?_
    refine condP_of (fun hb => ⟨rfl, false, rfl, ?_⟩) fun hok => ?_
    · simp only [Bool.or_eq_true, decide_eq_true_eq] at hb
      refine ⟨(fun h => by cases h), fun h => ?_⟩
      obtain ⟨h1, h2⟩ := h.1 _ (List.getElem_mem hlt')
      rcases hb with hb | hb <;> omega
    · simp only [Bool.or_eq_false_iff, decide_eq_false_iff_not] at hok
      exact does_add (by omega) (by omega) (hnext (i + 1) _ W (by simp) ⟨hlt', rfl, forall_take_succ hlt' hall ⟨by omega, by omega⟩⟩ (by omega))
  · have hie : i = (bs s).length := by simp at hge; omega
    rw [hie, List.take_length] at hall
    refine does_of (run_lenStr _ W) (does_le ⟨rfl, _, rfl, ?_⟩)
    simp only [decide_eq_true_eq]
    exact ⟨fun h => ⟨hall, by omega⟩, fun h => by have := h.2; omega⟩

/-! ### held against one another -/
theorem mkS_eq {xs ys : List UInt8} : mkS xs = mkS ys ↔ xs = ys := ⟨fun h => by have := congrArg bs h; simpa using this, fun h => by rw [h]⟩
theorem beq_spec {w : World} {a b : Value} {xs ys : List UInt8} (ha : Row w a (bytesV xs)) (hb : Row w b (bytesV ys)) : Call Try.prog 95 #[a, b] w fun v w' => w' = w ∧ v = .bool (decide (xs = ys)) := by
  apply vc95
  unfold V95
  refine does_of (run_conv_str ha) (does_of (run_conv_str hb) (does_of (run_eqS w) ⟨rfl, ?_⟩))
  congr 1
  rw [decide_eq_decide]
  exact mkS_eq
theorem rbytes_spec {w : World} {a b : Value} {xs ys : List UInt8} (ha : Row w a (bytesV xs)) (hb : Row w b (bytesV ys)) : Call Try.prog 57 #[a, b] w fun v w' => w' = w ∧ v = .bool (decide (xs = ys)) := by
  apply vc57
  unfold V57
  refine does_of (run_conv_str ha) (does_of (run_conv_str hb) (does_of (run_eqS w) ⟨rfl, ?_⟩))
  congr 1
  rw [decide_eq_decide]
  exact mkS_eq
theorem sequal_spec {w : World} {a b : Value} {xs ys : List UInt8} (ha : Row w a (bytesV xs)) (hb : Row w b (bytesV ys)) (hl : xs.length ≤ 1099511627776) : Call Try.prog 122 #[a, b] w fun v w' => Ext w w' ∧ v = .bool (decide (xs = ys)) := by
  apply vc122
  unfold V122
  refine ha.len u_bytes (hb.len u_bytes (does_of (run_neI _) (condP_of (fun hne => ?_) fun heq => ?_)))
  · refine ⟨Ext.refl _, ?_⟩
    simp at hne
    simp only [Value.bool.injEq, Bool.false_eq, decide_eq_false_iff_not]
    intro h; rw [h] at hne; omega
  simp at heq
  refine ha.len u_bytes ?_
  refine rounds1 (fun i : Nat => .int .i64 i) (fun i W => i ≤ xs.length ∧ Ext w W ∧ xs.take i = ys.take i) (fun i _ => xs.length - i) 0 rfl ⟨Nat.zero_le _, Ext.refl _, rfl⟩ ?_
  rintro next i W ⟨hi, hE, hall⟩ hnext _
  refine does_lt (condP_of (fun hlt => ?_) fun hge => ?_)
  · have hlt' : i < xs.length := by simpa using hlt
    refine q122_6 (Ext W) (Ext.drawn _) fun _ => ?_
    refine q_byteAt (ha.ext hE) (List.getElem?_eq_getElem hlt') (q_byteAt (hb.ext hE) (List.getElem?_eq_getElem (i := i) (by omega)) (qx (run_ne8 _ _) fun W1 hW _ => condP_of (fun hne => ⟨hE.trans hW, ?_⟩) fun he => ?_))
    · simp only [Bool.not_eq_true', decide_eq_false_iff_not] at hne
      simp only [Value.bool.injEq, Bool.false_eq, decide_eq_false_iff_not]
      intro h
      subst h
      exact hne rfl
    · simp only [Bool.not_eq_false', decide_eq_true_eq] at he
      exact does_add (by omega) (by omega) (hnext (i + 1) _ W1 (by simp) ⟨hlt', hE.trans hW, by rw [List.take_succ_eq_append_getElem hlt', List.take_succ_eq_append_getElem (by omega), hall, he]⟩ (by omega))
  · have hie : i = xs.length := by simp at hge; omega
    rw [hie, List.take_length, List.take_of_length_le (by omega)] at hall
    exact ⟨hE, by simp [hall]⟩

/-! ### copies -/
theorem run_build0 (W : World) : (Instr.buildSlice 34 0 #[]).run Try.prog W = .ok (.slice (some ⟨W.heap.size, 0, none⟩) 0 0) (W.alloc (.cells #[] 5)) := run_buildSlice0 u_bytes sz_u8 W
theorem copyBytes_spec {w : World} {v : Value} {l : List UInt8} (hr : Row w v (bytesV l)) (hl : l.length ≤ 1099511627776) : Call Try.prog 46 #[v] w fun u w' => OwnB w w' u l ∧ Ext w w' := by
  apply vc46
  unfold V46
  refine does_of (run_build0 w) ?_
  have ho : OwnB w (w.alloc (.cells #[] 5)) (.slice (some ⟨w.heap.size, 0, none⟩) 0 0) [] := own_empty _ (Nat.le_refl _)
  exact ho.appendR (ext_any _ w) (hr.ext (ext_any _ w)) (by simpa using hl) fun v' W' h1 h2 _ => ⟨h1, h2⟩
theorem bclone_spec {w : World} {v : Value} {l : List UInt8} (hr : Row w v (bytesV l)) (hl : l.length ≤ 1099511627776) : Call Try.prog 109 #[v] w fun u w' => OwnB w w' u l ∧ Ext w w' := by
  apply vc109
  unfold V109
  obtain ⟨a, c, rfl, h1, h2⟩ := id hr
  refine does_of (run_eql_slice_nil' u_bytes w) (condP_of (fun hn => ?_) fun hn => ?_)
  · have : a = none := by simpa using hn
    subst this
    have : l = [] := by
      cases l with
      | nil => rfl
      | cons x l => obtain ⟨ad, h3, _⟩ := h2 0 (u8V x) (by simp [bytesV, u8V]); cases h3
    subst this
    exact ⟨OwnB.nil _ _, Ext.refl _⟩
  · refine does_of (run_build0 w) ?_
    have ho : OwnB w (w.alloc (.cells #[] 5)) (.slice (some ⟨w.heap.size, 0, none⟩) 0 0) [] := own_empty _ (Nat.le_refl _)
    exact ho.appendR (ext_any _ w) (hr.ext (ext_any _ w)) (by simpa using hl) fun v' W' h1 h2 _ => ⟨h1, h2⟩
end Go.Proofs.Ytcncgkkilgmphaa
