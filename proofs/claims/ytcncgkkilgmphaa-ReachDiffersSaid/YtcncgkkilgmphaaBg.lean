/-
  Contracts: hexadecimal texts (sha.Hex, sha.Unhex, sha.Valid, marref1.Hex, marref1.Unhex, marref1.Valid).
  Contracts: names, messages, rows of bytes held against one another, copies.
  Contracts: reading a number (wire.Get, marref1.Get).
-/
import Derived.Test.YtcncgkkilgmphaaBd
import Derived.Test.YtcncgkkilgmphaaH1
set_option linter.unusedVariables false
set_option linter.unusedSimpArgs false
namespace Go.Proofs.Ytcncgkkilgmphaa
open Go Go.RowKit

/-! ### facts of one stage -/
def StB (w0 : World) (k0 : Nat) (v : Value) (l : List UInt8) (k : Nat) (W : World) : Prop := k = k0 → OwnB w0 W v l
def FoB (w0 : World) (k0 : Nat) (l : List UInt8) (k : Nat) (v : Value) (W : World) : Prop := k = k0 → OwnB w0 W v l
def FrB (k0 : Nat) (l : List UInt8) (k : Nat) (v : Value) (W : World) : Prop := k = k0 → Row W v (bytesV l)
def FcV (x : Value) (k : Nat) (v : Value) (W : World) : Prop := v = x
theorem FoB.st (w0 : World) (k0 : Nat) (l : List UInt8) (k : Nat) : FSt Ext (FoB w0 k0 l k) := fun v W W' hE h hk => (h hk).ext hE
theorem FrB.st (k0 : Nat) (l : List UInt8) (k : Nat) : FSt Ext (FrB k0 l k) := fun v W W' hE h hk => (h hk).ext hE
theorem FcV.st (x : Value) (k : Nat) : FSt Ext (FcV x k) := fun v W W' hE h => h
theorem FoB.off {w0 : World} {k0 : Nat} {l : List UInt8} {k : Nat} {v : Value} {W : World} (h : k ≠ k0) : FoB w0 k0 l k v W := fun e => absurd e h
theorem FrB.off {k0 : Nat} {l : List UInt8} {k : Nat} {v : Value} {W : World} (h : k ≠ k0) : FrB k0 l k v W := fun e => absurd e h
theorem StB.ext {w0 : World} {k0 : Nat} {v : Value} {l : List UInt8} {k : Nat} {W W' : World} (h : StB w0 k0 v l k W) (hE : Ext W W') : StB w0 k0 v l k W' := fun hk => (h hk).ext hE
theorem run_build2 (x y : UInt8) (W : World) : (Instr.buildSlice 34 2 #[(0, u8V x), (1, u8V y)]).run Try.prog W = .ok (.slice (some ⟨W.heap.size, 0, none⟩) 2 2) (W.alloc (.cells #[u8V x, u8V y] 5)) := by
  simp [go_sem, Instr.buildSlice, u8V]
theorem own_two8 (x y : UInt8) (W : World) : OwnB W (W.alloc (.cells #[u8V x, u8V y] 5)) (.slice (some ⟨W.heap.size, 0, none⟩) 2 2) [x, y] :=
  ⟨rfl, .inr ⟨W.heap.size, 2, #[u8V x, u8V y], rfl, Nat.le_refl _, heap_alloc_new W _, Nat.le_refl _, by simp [maxLen], rfl, rfl⟩⟩
theorem ext_any (o : Obj) (W : World) : Ext W (W.alloc o) := (Ext.refl W).alloc _

def digs : List UInt8 := [48, 49, 50, 51, 52, 53, 54, 55, 56, 57, 97, 98, 99, 100, 101, 102]
theorem digs_get {n : Nat} (h : n < 16) : digs[n]? = some (dg n) := by
  have : ∀ m : Fin 16, digs[m.val]? = some (dg m.val) := by decide
  exact this ⟨n, h⟩
theorem bs_digs : bs { data := #[48, 49, 50, 51, 52, 53, 54, 55, 56, 57, 97, 98, 99, 100, 101, 102] } = digs := rfl
theorem and15 (x : UInt8) : (x &&& 15).toNat = x.toNat % 16 := by
  rw [UInt8.toNat_and]
  exact Nat.and_two_pow_sub_one_eq_mod x.toNat 4
theorem run_hi {s : ByteArray} (hs : bs s = digs) (x : UInt8) (W : World) : (Instr.index 9 (.string s) (.int .u8 ((x.toNat / 2 ^ 4 : Nat) : Int))).run Try.prog W = .ok (u8V (dg (x.toNat / 16))) W :=
  run_strAt (by rw [hs]; exact digs_get (by have := x.toNat_lt; omega)) W
theorem run_lo {s : ByteArray} (hs : bs s = digs) (x : UInt8) (W : World) : (Instr.index 9 (.string s) (u8V (x &&& 15))).run Try.prog W = .ok (u8V (dg (x.toNat % 16))) W := by
  unfold u8V
  rw [and15]
  exact run_strAt (by rw [hs]; exact digs_get (by omega)) W
theorem hexL_append : ∀ a b : List UInt8, hexL (a ++ b) = hexL a ++ hexL b
  | [], b => rfl
  | x :: a, b => by simp [hexL, hexL_append a b]
structure HexSt where
  i : Nat
  v : Value
theorem hex_spec {w : World} {v : Value} {l : List UInt8} (hr : Row w v (bytesV l)) (hl : l.length ≤ 549755813888) :
    Call Try.prog 119 #[v] w fun r w' => r = .string (hexS l) ∧ Ext w w' := by
  apply vc119
  unfold V119
  refine hr.len u_bytes ?_
  refine rounds2 (σ := HexSt) (fun s => s.v) (fun s => .int .i64 s.i) (fun s W => s.i ≤ l.length ∧ Ext w W ∧ OwnB w W s.v (hexL (l.take s.i))) (fun s _ => l.length - s.i) ⟨0, .slice none 0 0⟩ rfl rfl ⟨Nat.zero_le _, Ext.refl _, OwnB.nil _ _⟩ ?_
  rintro next ⟨i, v'⟩ W ⟨hi, hE, ho⟩ hnext _
  simp only at hi ho ⊢
  refine does_lt (condP_of (fun hlt => ?_) fun hge => ?_)
  · have hlt' : i < l.length := by simpa using hlt
    refine does_byteAt hr hE (List.getElem?_eq_getElem hlt') ?_
    have hlen := hexL_length (l.take i)
    have h2 : (l.take i).length = i := by simp; omega
    refine h119_5 w (StB w 0 v' (hexL (l.take i))) (FrB 0 [dg (l[i].toNat / 16), dg (l[i].toNat % 16)]) (FoB w 1 (hexL (l.take (i + 1)))) hE (FrB.st _ _) (FoB.st _ _ _) (fun _ => ho.ext (Ext.drawn W)) ?_
    refine qx (run_shr8 (k := 4) _ (by omega)) (qx (run_hi bs_digs _) (qx (run_and8 (l[i]) 15) (qx (run_lo bs_digs _) ⟨?_, ?_, ?_⟩)))
    · intro W1 hA hC
      exact does_of (run_build2 _ _ W1) ⟨ext_any _ W1, fun hk => (hC hk).ext (ext_any _ W1), fun _ => (own_two8 _ _ W1).row⟩
    · intro t W1 hA hC hF
      refine (hC rfl).appendR hA.2 (hF rfl) (by simp only [List.length_cons, List.length_nil]; omega) fun v2 W2 h1 h2 h3 => ⟨⟨h3.size, h2⟩, (fun h => by cases h), fun _ => ?_, (by intros; first | omega | exact FoB.off (by omega) | exact FrB.off (by omega)), trivial⟩
      rw [List.take_succ_eq_append_getElem hlt', hexL_append]
      exact h1
    · intro t W1 hA hC hF _
      exact does_add (by omega) (by omega) (hnext ⟨i + 1, t⟩ _ _ W1 rfl (by simp) ⟨by simp only; omega, hA.2, hF rfl⟩ (by simp only; omega))
  · have : i = l.length := by simp at hge; omega
    subst this
    rw [List.take_length] at ho
    exact does_of (run_conv_str ho.row) ⟨rfl, hE⟩
theorem rhex_spec {w : World} {v : Value} {l : List UInt8} (hr : Row w v (bytesV l)) (hl : l.length ≤ 549755813888) :
    Call Try.prog 55 #[v] w fun r w' => r = .string (hexS l) ∧ Ext w w' := by
  apply vc55
  unfold V55
  refine rounds2 (σ := HexSt) (fun s => s.v) (fun s => .int .i64 s.i) (fun s W => s.i ≤ l.length ∧ Ext w W ∧ OwnB w W s.v (hexL (l.take s.i))) (fun s _ => l.length - s.i) ⟨0, .slice none 0 0⟩ rfl rfl ⟨Nat.zero_le _, Ext.refl _, OwnB.nil _ _⟩ ?_
  rintro next ⟨i, v'⟩ W ⟨hi, hE, ho⟩ hnext _
  simp only at hi ho ⊢
  refine (hr.ext hE).len u_bytes (does_lt (condP_of (fun hlt => ?_) fun hge => ?_))
  · have hlt' : i < l.length := by simpa using hlt
    have hlen := hexL_length (l.take i)
    have h2 : (l.take i).length = i := by simp; omega
    obtain ⟨p, hp1, hp2⟩ := run_byteAt (W := w) (kk := .i64) hr (List.getElem?_eq_getElem hlt')
    have hld : ∀ W1, Stg w W (StB w 0 v' (hexL (l.take i))) 0 1 W1 → (Instr.loadAt 5 (.pointer (some p))).run Try.prog W1 = .ok (u8V l[i]) W1 := fun W1 hW => hp2 W1 hW.1.2
    refine h55_6 w (StB w 0 v' (hexL (l.take i))) (FrB 0 [dg (l[i].toNat / 16), dg (l[i].toNat % 16)]) (FoB w 1 (hexL (l.take (i + 1)))) hE (FrB.st _ _) (FoB.st _ _ _) (fun _ => ho.ext (Ext.drawn W)) ?_
    refine qx hp1 (qc hld (qx (run_shr8 (k := 4) _ (by omega)) (qx (run_hi bs_digs _) (qx hp1 (qc hld (qx (run_and8 (l[i]) 15) (qx (run_lo bs_digs _) ⟨?_, ?_, ?_⟩)))))))
    · intro W1 hA hC
      exact does_of (run_build2 _ _ W1) ⟨ext_any _ W1, fun hk => (hC hk).ext (ext_any _ W1), fun _ => (own_two8 _ _ W1).row⟩
    · intro t W1 hA hC hF
      refine (hC rfl).appendR hA.2 (hF rfl) (by simp only [List.length_cons, List.length_nil]; omega) fun v2 W2 h1 h2 h3 => ⟨⟨h3.size, h2⟩, (fun h => by cases h), fun _ => ?_, (by intros; first | omega | exact FoB.off (by omega) | exact FrB.off (by omega)), trivial⟩
      rw [List.take_succ_eq_append_getElem hlt', hexL_append]
      exact h1
    · intro t W1 hA hC hF _
      exact does_add (by omega) (by omega) (hnext ⟨i + 1, t⟩ _ _ W1 rfl (by simp) ⟨by simp only; omega, hA.2, hF rfl⟩ (by simp only; omega))
  · have : i = l.length := by simp at hge; omega
    subst this
    rw [List.take_length] at ho
    exact does_of (run_conv_str ho.row) ⟨rfl, hE⟩

/-! ### back -/
def dI (c : UInt8) : Int := (dv c).elim (-1) (fun n => (n : Int))
theorem indexByte_digs (c : UInt8) : Lib.indexByte digs c = dI c := by
  have h : ∀ i : Fin 256, Lib.indexByte digs (UInt8.ofNat i.val) = dI (UInt8.ofNat i.val) := by decide +kernel
  have := h ⟨c.toNat, c.toNat_lt⟩
  simpa using this
theorem index_digs {s : ByteArray} (hs : bs s = digs) (c : UInt8) (w : World) : Call Try.prog 108 #[.string s, u8V c] w fun v w' => v = .int .i64 (dI c) ∧ w' = w := by
  refine (indexByte_spec s (c.toNat : Int) w).mono fun v w' ⟨h1, h2⟩ => ⟨?_, h2⟩
  rw [h1, ← indexByte_digs c]
  have : s.data.toList = digs := hs
  rw [this]
  simp
theorem run_rem64 {P : Program} {t : TypeId} {a b : Nat} (hb : b ≠ 0) (w : World) : (binOp .rem t (.int .i64 a) (.int .i64 b)).run P w = .ok (.int .i64 ((a % b : Nat) : Int)) w := by
  rw [binOp_rem]
  unfold Op.intDiv
  rw [if_neg (by omega)]
  simp only [Sem.run_pure]
  rfl
theorem run_mul64 {P : Program} {t : TypeId} {a b : Nat} (h : a * b < 9223372036854775808) (w : World) : (binOp .mul t (.int .i64 a) (.int .i64 b)).run P w = .ok (.int .i64 ((a * b : Nat) : Int)) w := by
  rw [binOp_mul]
  simp only [Op.intArith, Sem.run_pure]
  have e : ((a : Int) * (b : Int)) = ((a * b : Nat) : Int) := by push_cast; rfl
  rw [e, wrap_i64 (by omega) (by omega)]
theorem digit_spec (c : UInt8) (w : World) : Call Try.prog 115 #[u8V c] w fun v w' => v = .int .i64 (dI c) ∧ w' = w := by
  apply vc115
  unfold V115
  have hc := c.toNat_lt
  have e1 : ∀ W : World, (binOp .geq 5 (u8V c) (.int .u8 48)).run Try.prog W = .ok (.bool (decide (48 ≤ c.toNat))) W := fun W => by unfold u8V; rw [run_ge]; congr 2; rw [decide_eq_decide]; omega
  have e2 : ∀ W : World, (binOp .leq 5 (u8V c) (.int .u8 57)).run Try.prog W = .ok (.bool (decide (c.toNat ≤ 57))) W := fun W => by unfold u8V; rw [run_le]; congr 2; rw [decide_eq_decide]; omega
  have e3 : ∀ W : World, (binOp .geq 5 (u8V c) (.int .u8 97)).run Try.prog W = .ok (.bool (decide (97 ≤ c.toNat))) W := fun W => by unfold u8V; rw [run_ge]; congr 2; rw [decide_eq_decide]; omega
  have e4 : ∀ W : World, (binOp .leq 5 (u8V c) (.int .u8 102)).run Try.prog W = .ok (.bool (decide (c.toNat ≤ 102))) W := fun W => by unfold u8V; rw [run_le]; congr 2; rw [decide_eq_decide]; omega
  have e5 : ∀ (n : Nat) (W : World), n ≤ c.toNat → (binOp .sub 5 (u8V c) (.int .u8 (n : Int))).run Try.prog W = .ok (u8V (UInt8.ofNat (c.toNat - n))) W := fun n W hn => by
    unfold u8V
    rw [binOp_sub]
    simp only [Op.intArith, Sem.run_pure, IntKind.wrap_u8]
    congr 2
    rw [toNat8]
    omega
  refine does_of (e1 w) (and_join (decide (c.toNat ≤ 57)) (fun _ j hj => does_of (e2 w) hj) (condP_of (fun h => ?_) fun h => ?_))
  · simp at h
    refine does_of (e5 48 w h.1) (does_of (run_conv53 _ w) ⟨?_, rfl⟩)
    unfold dI dv
    rw [if_pos h, toNat8]
    simp only [Option.elim_some]
    congr 1
    omega
  · have h' : ¬ (48 ≤ c.toNat ∧ c.toNat ≤ 57) := by simpa using h
    refine does_of (e3 w) (and_join (decide (c.toNat ≤ 102)) (fun _ j hj => does_of (e4 w) hj) (condP_of (fun h => ?_) fun h => ?_))
    · simp at h
      refine does_of (e5 97 w h.1) (does_of (run_conv53 _ w) (does_add (by rw [toNat8]; omega) (by rw [toNat8]; omega) ⟨?_, rfl⟩))
      unfold dI dv
      rw [if_neg h', if_pos h, toNat8]
      simp only [Option.elim_some]
      congr 1
      omega
    · have h2 : ¬ (97 ≤ c.toNat ∧ c.toNat ≤ 102) := by simpa using h
      unfold dI dv
      rw [if_neg h', if_neg h2]
      exact ⟨rfl, rfl⟩
/-- what a reader of hexadecimal texts hands back -/
def UnhexR (w w' : World) (s : ByteArray) (v : Value) : Prop :=
  Ext w w' ∧ ((∃ l sl, unhexL (bs s) = some l ∧ v = .tuple #[sl, .bool true] ∧ OwnB w w' sl l) ∨ (unhexL (bs s) = none ∧ v = .tuple #[.slice none 0 0, .bool false]))
theorem unhex_odd : ∀ (l : List UInt8), l.length % 2 ≠ 0 → unhexL l = none
  | [], h => by simp at h
  | [_], _ => rfl
  | a :: b :: l, h => by
    have := unhex_odd l (by simp only [List.length_cons] at h; omega)
    unfold unhexL
    split <;> simp [this]
theorem unhex_len : ∀ (l m : List UInt8), unhexL l = some m → l.length = 2 * m.length := fun l m h => by rw [← hex_unhex l m h, hexL_length]
theorem dI_neg {c : UInt8} : dI c < 0 ↔ dv c = none := by
  unfold dI
  cases dv c <;> simp
structure UnSt where
  i : Nat
  v : Value
  acc : List UInt8
theorem drop2 {l : List UInt8} {i : Nat} (h : i + 1 < l.length) : l.drop i = l[i] :: l[i + 1] :: l.drop (i + 2) := by
  rw [List.drop_eq_getElem_cons (by omega), List.drop_eq_getElem_cons (i := i + 1) (by omega)]
theorem unhex_step {l acc : List UInt8} {i : Nat} {a b : UInt8} {h k : Nat} (hd : l.drop i = a :: b :: l.drop (i + 2)) (ha : dv a = some h) (hb : dv b = some k) (hI : unhexL l = (unhexL (l.drop i)).map (acc ++ ·)) :
    unhexL l = (unhexL (l.drop (i + 2))).map ((acc ++ [UInt8.ofNat (16 * h + k)]) ++ ·) := by
  rw [hI, hd]
  simp only [unhexL, ha, hb]
  cases unhexL (l.drop (i + 2)) <;> simp
theorem unhex_fail {l acc : List UInt8} {i : Nat} {a b : UInt8} (hd : l.drop i = a :: b :: l.drop (i + 2)) (hn : dv a = none ∨ dv b = none) (hI : unhexL l = (unhexL (l.drop i)).map (acc ++ ·)) : unhexL l = none := by
  rw [hI, hd]
  rcases hn with h | h
  · simp [unhexL, h]
  · cases hv : dv a <;> simp [unhexL, h, hv]
theorem unhex_acc {l acc : List UInt8} {i : Nat} {a b : UInt8} {h k : Nat} (hI : unhexL l = (unhexL (l.drop i)).map (acc ++ ·)) (hi : 2 * acc.length = i) : acc.length ≤ i := by omega
theorem or_hk {h k : Nat} (hk : k < 16) : h * 2 ^ 4 ||| k = 16 * h + k := by
  have := Nat.two_pow_add_eq_or_of_lt (i := 4) (b := k) (by omega) h
  rw [show h * 2 ^ 4 = 2 ^ 4 * h by omega, ← this]
theorem unhex_spec {w : World} {s : ByteArray} (hs : (bs s).length ≤ 1099511627776) : Call Try.prog 91 #[.string s] w fun v w' => UnhexR w w' s v := by
  apply vc91
  unfold V91
  refine does_of (run_lenStr _ w) (does_of (run_rem64 (b := 2) (by omega) w) (does_of (run_neI w) (condP_of (fun h => ?_) fun h => ?_)))
  · exact ⟨Ext.refl _, .inr ⟨unhex_odd _ (by simp at h; omega), rfl⟩⟩
  have heven : (bs s).length % 2 = 0 := by simp at h; omega
  refine rounds2 (σ := UnSt) (fun s => s.v) (fun s => .int .i64 s.i) (fun t W => t.i ≤ (bs s).length ∧ t.i = 2 * t.acc.length ∧ Ext w W ∧ OwnB w W t.v t.acc ∧ unhexL (bs s) = (unhexL ((bs s).drop t.i)).map (t.acc ++ ·)) (fun t _ => (bs s).length - t.i) ⟨0, .slice none 0 0, []⟩ rfl rfl
    ⟨Nat.zero_le _, rfl, Ext.refl _, OwnB.nil _ _, by simp⟩ ?_
  rintro next ⟨i, v, acc⟩ W ⟨hi, hia, hE, ho, hI⟩ hnext _
  simp only at hi hia ho hI ⊢
  refine does_of (run_lenStr _ W) (does_lt (condP_of (fun hlt => ?_) fun hge => ?_))
  · have hlt' : i + 1 < (bs s).length := by simp at hlt; omega
    have hd := drop2 hlt'
    refine q91_7 (Ext W) (Ext.drawn _) fun _ => ?_
    refine qx (run_strAt (List.getElem?_eq_getElem (by omega))) (qcall_of (.int .i64 (dI (bs s)[i])) (fun W1 hW => (index_digs bs_digs _ W1).mono fun v W2 ⟨h1, h2⟩ => ⟨h1, by rw [h2]; exact hW⟩) ?_)
    refine qx (fun W1 => run_add (by omega) (by omega) W1) ?_
    refine qx (run_strAt (i := i + 1) (List.getElem?_eq_getElem hlt')) (qcall_of (.int .i64 (dI (bs s)[i + 1])) (fun W1 hW => (index_digs bs_digs _ W1).mono fun v W2 ⟨h1, h2⟩ => ⟨h1, by rw [h2]; exact hW⟩) ?_)
    intro W1 hW _
    refine does_lt (or_join (decide (dI (bs s)[i + 1] < 0)) (fun _ j hj => does_lt hj) (condP_of (fun hb => ?_) fun hok => ?_))
    · simp only [Bool.or_eq_true, decide_eq_true_eq] at hb
      exact ⟨hE.trans hW, .inr ⟨unhex_fail hd (hb.imp dI_neg.1 dI_neg.1) hI, rfl⟩⟩
    · simp only [Bool.or_eq_false_iff, decide_eq_false_iff_not] at hok
      cases ha : dv (bs s)[i] with
      | none => exact absurd (dI_neg.2 ha) hok.1
      | some h =>
        cases hb : dv (bs s)[i + 1] with
        | none => exact absurd (dI_neg.2 hb) hok.2
        | some k =>
          obtain ⟨_, h16⟩ := dg_dv ha
          obtain ⟨_, k16⟩ := dg_dv hb
          have e1 : dI (bs s)[i] = (h : Int) := by unfold dI; rw [ha]; rfl
          have e2 : dI (bs s)[i + 1] = (k : Int) := by unfold dI; rw [hb]; rfl
          rw [e1, e2]
          refine does_of (run_shl64 (k := 4) (by omega) (by omega) W1) (does_of (run_or64 (by omega) (by omega) W1) ?_)
          rw [or_hk k16]
          refine does_of (run_conv35 _ W1) ?_
          rw [b8_nat]
          refine (ho.ext hW).push (hE.trans hW) (by omega) fun v' W' h1 h2 _ => ?_
          exact does_add (by omega) (by omega) (hnext ⟨i + 2, v', acc ++ [UInt8.ofNat (16 * h + k)]⟩ _ _ W' rfl (by simp) ⟨by simp only; omega, by simp; omega, h2, h1, unhex_step hd ha hb hI⟩ (by simp only; omega))
  · have hie : i = (bs s).length := by simp at hge; omega
    rw [hie, List.drop_length] at hI
    exact ⟨hE, .inl ⟨acc, v, by rw [hI]; simp [unhexL], rfl, ho⟩⟩
theorem runhex_spec {w : World} {s : ByteArray} (hs : (bs s).length ≤ 1099511627776) : Call Try.prog 102 #[.string s] w fun v w' => UnhexR w w' s v := by
  apply vc102
  unfold V102
  refine does_of (run_lenStr _ w) (does_of (run_rem64 (b := 2) (by omega) w) (does_of (run_neI w) (condP_of (fun h => ?_) fun h => ?_)))
  · exact ⟨Ext.refl _, .inr ⟨unhex_odd _ (by simp at h; omega), rfl⟩⟩
  have heven : (bs s).length % 2 = 0 := by simp at h; omega
  refine rounds2 (σ := UnSt) (fun s => s.v) (fun s => .int .i64 s.i) (fun t W => t.i ≤ (bs s).length ∧ t.i = 2 * t.acc.length ∧ Ext w W ∧ OwnB w W t.v t.acc ∧ unhexL (bs s) = (unhexL ((bs s).drop t.i)).map (t.acc ++ ·)) (fun t _ => (bs s).length - t.i) ⟨0, .slice none 0 0, []⟩ rfl rfl
    ⟨Nat.zero_le _, rfl, Ext.refl _, OwnB.nil _ _, by simp⟩ ?_
  rintro next ⟨i, v, acc⟩ W ⟨hi, hia, hE, ho, hI⟩ hnext _
  simp only at hi hia ho hI ⊢
  refine does_of (run_lenStr _ W) (does_lt (condP_of (fun hlt => ?_) fun hge => ?_))
  · have hlt' : i + 1 < (bs s).length := by simp at hlt; omega
    have hd := drop2 hlt'
    refine q102_7 (Ext W) (Ext.drawn _) fun _ => ?_
    refine qx (run_strAt (List.getElem?_eq_getElem (by omega))) (qcall_of (.int .i64 (dI (bs s)[i])) (fun W1 hW => (digit_spec _ W1).mono fun v W2 ⟨h1, h2⟩ => ⟨h1, by rw [h2]; exact hW⟩) ?_)
    refine qx (fun W1 => run_add (by omega) (by omega) W1) ?_
    refine qx (run_strAt (i := i + 1) (List.getElem?_eq_getElem hlt')) (qcall_of (.int .i64 (dI (bs s)[i + 1])) (fun W1 hW => (digit_spec _ W1).mono fun v W2 ⟨h1, h2⟩ => ⟨h1, by rw [h2]; exact hW⟩) ?_)
    intro W1 hW _
    refine does_lt (or_join (decide (dI (bs s)[i + 1] < 0)) (fun _ j hj => does_lt hj) (condP_of (fun hb => ?_) fun hok => ?_))
    · simp only [Bool.or_eq_true, decide_eq_true_eq] at hb
      exact ⟨hE.trans hW, .inr ⟨unhex_fail hd (hb.imp dI_neg.1 dI_neg.1) hI, rfl⟩⟩
    · simp only [Bool.or_eq_false_iff, decide_eq_false_iff_not] at hok
      cases ha : dv (bs s)[i] with
      | none => exact absurd (dI_neg.2 ha) hok.1
      | some h =>
        cases hb : dv (bs s)[i + 1] with
        | none => exact absurd (dI_neg.2 hb) hok.2
        | some k =>
          obtain ⟨_, h16⟩ := dg_dv ha
          obtain ⟨_, k16⟩ := dg_dv hb
          have e1 : dI (bs s)[i] = (h : Int) := by unfold dI; rw [ha]; rfl
          have e2 : dI (bs s)[i + 1] = (k : Int) := by unfold dI; rw [hb]; rfl
          rw [e1, e2]
          refine does_of (run_mul64 (a := 16) (b := h) (by omega) W1) (does_add (by omega) (by omega) ?_)
          rw [show (((16 * h : Nat) : Int) + (k : Int)) = ((16 * h + k : Nat) : Int) by omega]
          refine does_of (run_conv35 _ W1) ?_
          rw [b8_nat]
          refine (ho.ext hW).push (hE.trans hW) (by omega) fun v' W' h1 h2 _ => ?_
          exact does_add (by omega) (by omega) (hnext ⟨i + 2, v', acc ++ [UInt8.ofNat (16 * h + k)]⟩ _ _ W' rfl (by simp) ⟨by simp only; omega, by simp; omega, h2, h1, unhex_step hd ha hb hI⟩ (by simp only; omega))
  · have hie : i = (bs s).length := by simp at hge; omega
    rw [hie, List.drop_length] at hI
    exact ⟨hE, .inl ⟨acc, v, by rw [hI]; simp [unhexL], rfl, ho⟩⟩
theorem unhexR_valid {w w1 : World} {s : ByteArray} {v : Value} (h : UnhexR w w1 s v) : ∃ sl b l, v = .tuple #[sl, .bool b] ∧ Row w1 sl (bytesV l) ∧ ((b && decide ((l.length : Int) = 32)) = true ↔ Valid s) := by
  obtain ⟨_, ⟨l, sl, h1, h2, h3⟩ | ⟨h1, h2⟩⟩ := h
  · refine ⟨sl, true, l, h2, h3.row, ?_⟩
    simp only [Bool.true_and, decide_eq_true_eq]
    constructor
    · exact fun h => ⟨l, h1, by omega⟩
    · rintro ⟨m, g1, g2⟩
      rw [h1] at g1
      cases g1
      omega
  · refine ⟨_, false, [], h2, Row.nil _ _ _, ?_⟩
    simp only [Bool.false_and]
    constructor
    · intro h; cases h
    · rintro ⟨m, g1, g2⟩
      rw [h1] at g1
      cases g1
theorem valid_spec {w : World} {s : ByteArray} (hs : (bs s).length ≤ 1099511627776) : Call Try.prog 87 #[.string s] w fun v w' => Ext w w' ∧ ∃ b : Bool, v = .bool b ∧ (b = true ↔ Valid s) := by
  apply vc87
  unfold V87
  refine (unhex_spec hs).mono fun v w1 hU => ?_
  obtain ⟨sl, b, l, hv, hr, hb⟩ := unhexR_valid hU
  subst hv
  refine ex2a (ex2b (and_join (decide ((l.length : Int) = 32)) (fun _ j hj => hr.len u_bytes (does_of (run_eqI w1) (by simpa using hj))) ⟨hU.1, _, rfl, hb⟩))
theorem rvalid_spec {w : World} {s : ByteArray} (hs : (bs s).length ≤ 1099511627776) : Call Try.prog 99 #[.string s] w fun v w' => Ext w w' ∧ ∃ b : Bool, v = .bool b ∧ (b = true ↔ Valid s) := by
  apply vc99
  unfold V99
  refine (runhex_spec hs).mono fun v w1 hU => ?_
  obtain ⟨sl, b, l, hv, hr, hb⟩ := unhexR_valid hU
  subst hv
  refine ex2a (ex2b (and_join (decide ((l.length : Int) = 32)) (fun _ j hj => hr.len u_bytes (does_of (run_eqI w1) (by simpa using hj))) ⟨hU.1, _, rfl, hb⟩))
/-- a hash's bytes behind others -/
theorem hash_spec {w0 w : World} {b : Value} {l : List UInt8} {s : ByteArray} (ho : OwnB w0 w b l) (hE : Ext w0 w) (hs : Valid s) (hl : l.length ≤ 1099511620000) :
    Call Try.prog 71 #[b, .string s] w fun v w' => OwnB w0 w' v (l ++ rawL s) ∧ Ext w0 w' ∧ Mod b.ownBlock w w' := by
  apply vc71
  unfold V71
  obtain ⟨m, hm, hm32⟩ := hs
  have hlen := unhex_len _ _ hm
  refine (unhex_spec (by omega)).mono fun v w1 ⟨hE1, hU⟩ => ?_
  rcases hU with ⟨m', sl, h1, rfl, h3⟩ | ⟨h1, _⟩
  · rw [hm] at h1
    cases h1
    refine ex2a (ex2b ((ho.ext hE1).appendR (hE.trans hE1) h3.row (by omega) fun v' W' g1 g2 g3 => ⟨?_, g2, (Mod.ofExt hE1).trans g3⟩))
    unfold rawL
    rw [hm]
    exact g1
  · rw [hm] at h1; cases h1
theorem raw_spec {w : World} {s : ByteArray} (hs : Valid s) : Call Try.prog 78 #[.string s] w fun v w' => OwnB w w' v (rawL s) ∧ Ext w w' := by
  apply vc78
  unfold V78
  obtain ⟨m, hm, hm32⟩ := hs
  have hlen := unhex_len _ _ hm
  refine (runhex_spec (by omega)).mono fun v w1 ⟨hE1, hU⟩ => ?_
  rcases hU with ⟨m', sl, h1, rfl, h3⟩ | ⟨h1, _⟩
  · rw [hm] at h1
    cases h1
    refine ex2a (ex2b ⟨?_, hE1⟩)
    unfold rawL
    rw [hm]
    exact h3
  · rw [hm] at h1; cases h1
end Go.Proofs.Ytcncgkkilgmphaa

set_option linter.unusedVariables false
set_option linter.unusedSimpArgs false
namespace Go.Proofs.Ytcncgkkilgmphaa
open Go Go.RowKit

def NameOk (s : ByteArray) : Prop := (∀ c ∈ bs s, 33 ≤ c.toNat ∧ c.toNat ≤ 126 ∧ c ≠ 47) ∧ s ≠ { data := #[] } ∧ (bs s).length ≤ 64 ∧ s ≠ { data := #[46] } ∧ s ≠ { data := #[46, 46] }
def MsgOk (s : ByteArray) : Prop := (∀ c ∈ bs s, 32 ≤ c.toNat ∧ c.toNat ≤ 126) ∧ (bs s).length ≤ 200
theorem forall_take_succ {α : Type} {l : List α} {i : Nat} {p : α → Prop} (hi : i < l.length) (h : ∀ c ∈ l.take i, p c) (h2 : p l[i]) : ∀ c ∈ l.take (i + 1), p c := by
  intro c hc
  rw [List.take_succ_eq_append_getElem hi] at hc
  rcases List.mem_append.1 hc with hc | hc
  · exact h c hc
  · rw [List.mem_singleton.1 hc]; exact h2
theorem and3 {a b c d : Bool} {p : Prop} (h : ((((a && b) && c) && d) = true) ↔ p) : ((((a && b) && c) && d) = true) ↔ p := h
theorem size0 {s : ByteArray} : s = { data := #[] } ↔ (bs s).length = 0 := by
  constructor
  · intro h; rw [h]; rfl
  · intro h
    apply bs_inj
    rw [List.eq_nil_of_length_eq_zero h]
    rfl
theorem name_spec {w : World} {s : ByteArray} (hs : (bs s).length ≤ 1099511627776) : Call Try.prog 106 #[.string s] w fun v w' => w' = w ∧ ∃ b : Bool, v = .bool b ∧ (b = true ↔ NameOk s) := by
  apply vc106
  unfold V106
  refine does_of (run_lenStr _ w) ?_
  refine rounds1 (fun i : Nat => .int .i64 i) (fun i W => i ≤ (bs s).length ∧ W = w ∧ ∀ c ∈ (bs s).take i, 33 ≤ c.toNat ∧ c.toNat ≤ 126 ∧ c ≠ 47) (fun i _ => (bs s).length - i) 0 rfl ⟨Nat.zero_le _, rfl, by simp⟩ ?_
  rintro next i W ⟨hi, rfl, hall⟩ hnext _
  refine does_lt (condP_of (fun hlt => ?_) fun hge => ?_)
  · have hlt' : i < (bs s).length := by simpa using hlt
    have hx := List.getElem?_eq_getElem hlt'
    refine does_of (run_strAt hx W) (does_of (run_lt8 _ 33 W) ?_)
    refine or_join (decide (126 < ((bs s)[i]).toNat)) (fun _ j hj => does_of (run_strAt hx W) (does_of (run_gt8 _ 126 W) hj)) ?_
    refine or_join (decide ((bs s)[i] = 47)) (fun _ j hj => does_of (run_strAt hx W) (does_of (run_eq8 _ 47 W) hj)) ?_
    refine condP_of (fun hb => ⟨rfl, false, rfl, ?_⟩) fun hok => ?_
    · simp only [Bool.or_eq_true, decide_eq_true_eq] at hb
      refine ⟨(fun h => by cases h), fun h => ?_⟩
      obtain ⟨h1, h2, h3⟩ := h.1 _ (List.getElem_mem hlt')
      have e33 : (33 : UInt8).toNat = 33 := rfl
      rcases hb with (hb | hb) | hb
      · omega
      · omega
      · exact absurd hb h3
    · simp only [Bool.or_eq_false_iff, decide_eq_false_iff_not] at hok
      have e33 : (33 : UInt8).toNat = 33 := rfl
      exact does_add (by omega) (by omega) (hnext (i + 1) _ W (by simp) ⟨hlt', rfl, forall_take_succ hlt' hall ⟨by omega, by omega, hok.2⟩⟩ (by omega))
  · have hie : i = (bs s).length := by simp at hge; omega
    rw [hie, List.take_length] at hall
    refine does_of (run_neS W) ?_
    refine and_join (decide (((bs s).length : Int) ≤ 64)) (fun _ j hj => does_of (run_lenStr _ W) (does_le hj)) ?_
    refine and_join (!decide (s = { data := #[46] })) (fun _ j hj => does_of (run_neS W) hj) ?_
    refine and_join (!decide (s = { data := #[46, 46] })) (fun _ j hj => does_of (run_neS W) hj) ⟨rfl, _, rfl, ?_⟩
    simp only [Bool.and_eq_true, Bool.not_eq_true', decide_eq_true_eq, decide_eq_false_iff_not]
    exact ⟨fun ⟨⟨⟨h1, h2⟩, h3⟩, h4⟩ => ⟨hall, h1, by omega, h3, h4⟩, fun h => ⟨⟨⟨h.2.1, by have := h.2.2.1; omega⟩, h.2.2.2.1⟩, h.2.2.2.2⟩⟩
theorem rname_spec {w : World} {s : ByteArray} (hs : (bs s).length ≤ 1099511627776) : Call Try.prog 114 #[.string s] w fun v w' => w' = w ∧ ∃ b : Bool, v = .bool b ∧ (b = true ↔ NameOk s) := by
  apply vc114
  unfold V114
  refine does_of (run_lenStr _ w) (does_lt ?_)
  refine or_join (decide ((64 : Int) < ((bs s).length : Nat))) (fun _ j hj => does_of (run_lenStr _ w) (does_gt hj)) ?_
  refine or_join (decide (s = { data := #[46] })) (fun _ j hj => does_of (run_eqS w) hj) ?_
  refine or_join (decide (s = { data := #[46, 46] })) (fun _ j hj => does_of (run_eqS w) hj) ?_
  refine condP_of (fun hb => ⟨rfl, false, rfl, ?_⟩) fun hok => ?_
  · simp only [Bool.or_eq_true, decide_eq_true_eq] at hb
    refine ⟨(fun h => by cases h), fun h => ?_⟩
    rcases hb with ((hb | hb) | hb) | hb
    · exact absurd (size0.2 (by omega)) h.2.1
    · have := h.2.2.1; omega
    · exact absurd hb h.2.2.2.1
    · exact absurd hb h.2.2.2.2
  simp only [Bool.or_eq_false_iff, decide_eq_false_iff_not] at hok
  obtain ⟨⟨⟨k1, k2⟩, k3⟩, k4⟩ := hok
  refine rounds1 (fun i : Nat => .int .i64 i) (fun i W => i ≤ (bs s).length ∧ W = w ∧ ∀ c ∈ (bs s).take i, 33 ≤ c.toNat ∧ c.toNat ≤ 126 ∧ c ≠ 47) (fun i _ => (bs s).length - i) 0 rfl ⟨Nat.zero_le _, rfl, by simp⟩ ?_
  rintro next i W ⟨hi, rfl, hall⟩ hnext _
  refine does_of (run_lenStr _ W) (does_lt (condP_of (fun hlt => ?_) fun hge => ?_))
  · have hlt' : i < (bs s).length := by simpa using hlt
    have hx := List.getElem?_eq_getElem hlt'
    refine does_of (run_strAt hx W) (does_of (run_lt8 _ 33 W) ?_)
    refine or_join (decide (126 < ((bs s)[i]).toNat)) (fun _ j hj => does_of (run_strAt hx W) (does_of (run_gt8 _ 126 W) hj)) ?_
    refine or_join (decide ((bs s)[i] = 47)) (fun _ j hj => does_of (run_strAt hx W) (does_of (run_eq8 _ 47 W) hj)) ?_
    refine condP_of (fun hb => ⟨rfl, false, rfl, ?_⟩) fun hok => ?_
    · simp only [Bool.or_eq_true, decide_eq_true_eq] at hb
      refine ⟨(fun h => by cases h), fun h => ?_⟩
      obtain ⟨h1, h2, h3⟩ := h.1 _ (List.getElem_mem hlt')
      have e33 : (33 : UInt8).toNat = 33 := rfl
      rcases hb with (hb | hb) | hb
      · omega
      · omega
      · exact absurd hb h3
    · simp only [Bool.or_eq_false_iff, decide_eq_false_iff_not] at hok
      have e33 : (33 : UInt8).toNat = 33 := rfl
      exact does_add (by omega) (by omega) (hnext (i + 1) _ W (by simp) ⟨hlt', rfl, forall_take_succ hlt' hall ⟨by omega, by omega, hok.2⟩⟩ (by omega))
  · have hie : i = (bs s).length := by simp at hge; omega
    rw [hie, List.take_length] at hall
    refine ⟨rfl, true, rfl, fun _ => ⟨hall, fun h => ?_, by omega, k3, k4⟩, fun _ => rfl⟩
    have := size0.1 h
    omega
theorem msg_spec {w : World} {s : ByteArray} (hs : (bs s).length ≤ 1099511627776) : Call Try.prog 89 #[.string s] w fun v w' => w' = w ∧ ∃ b : Bool, v = .bool b ∧ (b = true ↔ MsgOk s) := by
  apply vc89
  unfold V89
  refine does_of (run_lenStr _ w) ?_
  refine rounds1 (fun i : Nat => .int .i64 i) (fun i W => i ≤ (bs s).length ∧ W = w ∧ ∀ c ∈ (bs s).take i, 32 ≤ c.toNat ∧ c.toNat ≤ 126) (fun i _ => (bs s).length - i) 0 rfl ⟨Nat.zero_le _, rfl, by simp⟩ ?_
  rintro next i W ⟨hi, rfl, hall⟩ hnext _
  refine does_lt (condP_of (fun hlt => ?_) fun hge => ?_)
  · have hlt' : i < (bs s).length := by simpa using hlt
    have hx := List.getElem?_eq_getElem hlt'
    have e32 : (32 : UInt8).toNat = 32 := rfl
    refine does_of (run_strAt hx W) (does_of (run_lt8 _ 32 W) ?_)
    refine or_join (decide (126 < ((bs s)[i]).toNat)) (fun _ j hj => does_of (run_strAt hx W) (does_of (run_gt8 _ 126 W) hj)) ?_
    refine condP_of (fun hb => ⟨rfl, false, rfl, ?_⟩) fun hok => ?_
    · simp only [Bool.or_eq_true, decide_eq_true_eq] at hb
      refine ⟨(fun h => by cases h), fun h => ?_⟩
      obtain ⟨h1, h2⟩ := h.1 _ (List.getElem_mem hlt')
      rcases hb with hb | hb <;> omega
    · simp only [Bool.or_eq_false_iff, decide_eq_false_iff_not] at hok
      exact does_add (by omega) (by omega) (hnext (i + 1) _ W (by simp) ⟨hlt', rfl, forall_take_succ hlt' hall ⟨by omega, by omega⟩⟩ (by omega))
  · have hie : i = (bs s).length := by simp at hge; omega
    rw [hie, List.take_length] at hall
    refine does_of (run_lenStr _ W) (does_le ⟨rfl, _, rfl, ?_⟩)
    simp only [decide_eq_true_eq]
    exact ⟨fun h => ⟨hall, by omega⟩, fun h => by have := h.2; omega⟩
theorem rmsg_spec {w : World} {s : ByteArray} (hs : (bs s).length ≤ 1099511627776) : Call Try.prog 101 #[.string s] w fun v w' => w' = w ∧ ∃ b : Bool, v = .bool b ∧ (b = true ↔ MsgOk s) := by
  apply vc101
  unfold V101
  refine rounds1 (fun i : Nat => .int .i64 i) (fun i W => i ≤ (bs s).length ∧ W = w ∧ ∀ c ∈ (bs s).take i, 32 ≤ c.toNat ∧ c.toNat ≤ 126) (fun i _ => (bs s).length - i) 0 rfl ⟨Nat.zero_le _, rfl, by simp⟩ ?_
  rintro next i W ⟨hi, rfl, hall⟩ hnext _
  refine does_of (run_lenStr _ W) (does_lt (condP_of (fun hlt => ?_) fun hge => ?_))
  · have hlt' : i < (bs s).length := by simpa using hlt
    have hx := List.getElem?_eq_getElem hlt'
    have e32 : (32 : UInt8).toNat = 32 := rfl
    refine does_of (run_strAt hx W) (does_of (run_lt8 _ 32 W) ?_)
    refine or_join (decide (126 < ((bs s)[i]).toNat)) (fun _ j hj => does_of (run_strAt hx W) (does_of (run_gt8 _ 126 W) hj)) ?_
    refine condP_of (fun hb => ⟨rfl, false, rfl, ?_⟩) fun hok => ?_
    · simp only [Bool.or_eq_true, decide_eq_true_eq] at hb
      refine ⟨(fun h => by cases h), fun h => ?_⟩
      obtain ⟨h1, h2⟩ := h.1 _ (List.getElem_mem hlt')
      rcases hb with hb | hb <;> omega
    · simp only [Bool.or_eq_false_iff, decide_eq_false_iff_not] at hok
      exact does_add (by omega) (by omega) (hnext (i + 1) _ W (by simp) ⟨hlt', rfl, forall_take_succ hlt' hall ⟨by omega, by omega⟩⟩ (by omega))
  · have hie : i = (bs s).length := by simp at hge; omega
    rw [hie, List.take_length] at hall
    refine does_of (run_lenStr _ W) (does_le ⟨rfl, _, rfl, ?_⟩)
    simp only [decide_eq_true_eq]
    exact ⟨fun h => ⟨hall, by omega⟩, fun h => by have := h.2; omega⟩

/-! ### held against one another -/
theorem mkS_eq {xs ys : List UInt8} : mkS xs = mkS ys ↔ xs = ys := ⟨fun h => by have := congrArg bs h; simpa using this, fun h => by rw [h]⟩
theorem beq_spec {w : World} {a b : Value} {xs ys : List UInt8} (ha : Row w a (bytesV xs)) (hb : Row w b (bytesV ys)) : Call Try.prog 95 #[a, b] w fun v w' => w' = w ∧ v = .bool (decide (xs = ys)) := by
  apply vc95
  unfold V95
  refine does_of (run_conv_str ha) (does_of (run_conv_str hb) (does_of (run_eqS w) ⟨rfl, ?_⟩))
  congr 1
  rw [decide_eq_decide]
  exact mkS_eq
theorem rbytes_spec {w : World} {a b : Value} {xs ys : List UInt8} (ha : Row w a (bytesV xs)) (hb : Row w b (bytesV ys)) : Call Try.prog 57 #[a, b] w fun v w' => w' = w ∧ v = .bool (decide (xs = ys)) := by
  apply vc57
  unfold V57
  refine does_of (run_conv_str ha) (does_of (run_conv_str hb) (does_of (run_eqS w) ⟨rfl, ?_⟩))
  congr 1
  rw [decide_eq_decide]
  exact mkS_eq
theorem sequal_spec {w : World} {a b : Value} {xs ys : List UInt8} (ha : Row w a (bytesV xs)) (hb : Row w b (bytesV ys)) (hl : xs.length ≤ 1099511627776) : Call Try.prog 122 #[a, b] w fun v w' => Ext w w' ∧ v = .bool (decide (xs = ys)) := by
  apply vc122
  unfold V122
  refine ha.len u_bytes (hb.len u_bytes (does_of (run_neI _) (condP_of (fun hne => ?_) fun heq => ?_)))
  · refine ⟨Ext.refl _, ?_⟩
    simp at hne
    simp only [Value.bool.injEq, Bool.false_eq, decide_eq_false_iff_not]
    intro h; rw [h] at hne; omega
  simp at heq
  refine ha.len u_bytes ?_
  refine rounds1 (fun i : Nat => .int .i64 i) (fun i W => i ≤ xs.length ∧ Ext w W ∧ xs.take i = ys.take i) (fun i _ => xs.length - i) 0 rfl ⟨Nat.zero_le _, Ext.refl _, rfl⟩ ?_
  rintro next i W ⟨hi, hE, hall⟩ hnext _
  refine does_lt (condP_of (fun hlt => ?_) fun hge => ?_)
  · have hlt' : i < xs.length := by simpa using hlt
    refine q122_6 (Ext W) (Ext.drawn _) fun _ => ?_
    refine q_byteAt (ha.ext hE) (List.getElem?_eq_getElem hlt') (q_byteAt (hb.ext hE) (List.getElem?_eq_getElem (i := i) (by omega)) (qx (run_ne8 _ _) fun W1 hW _ => condP_of (fun hne => ⟨hE.trans hW, ?_⟩) fun he => ?_))
    · simp only [Bool.not_eq_true', decide_eq_false_iff_not] at hne
      simp only [Value.bool.injEq, Bool.false_eq, decide_eq_false_iff_not]
      intro h
      subst h
      exact hne rfl
    · simp only [Bool.not_eq_false', decide_eq_true_eq] at he
      exact does_add (by omega) (by omega) (hnext (i + 1) _ W1 (by simp) ⟨hlt', hE.trans hW, by rw [List.take_succ_eq_append_getElem hlt', List.take_succ_eq_append_getElem (by omega), hall, he]⟩ (by omega))
  · have hie : i = xs.length := by simp at hge; omega
    rw [hie, List.take_length, List.take_of_length_le (by omega)] at hall
    exact ⟨hE, by simp [hall]⟩

/-! ### copies -/
theorem run_build0 (W : World) : (Instr.buildSlice 34 0 #[]).run Try.prog W = .ok (.slice (some ⟨W.heap.size, 0, none⟩) 0 0) (W.alloc (.cells #[] 5)) := run_buildSlice0 u_bytes sz_u8 W
theorem copyBytes_spec {w : World} {v : Value} {l : List UInt8} (hr : Row w v (bytesV l)) (hl : l.length ≤ 1099511627776) : Call Try.prog 46 #[v] w fun u w' => OwnB w w' u l ∧ Ext w w' := by
  apply vc46
  unfold V46
  refine does_of (run_build0 w) ?_
  have ho : OwnB w (w.alloc (.cells #[] 5)) (.slice (some ⟨w.heap.size, 0, none⟩) 0 0) [] := own_empty _ (Nat.le_refl _)
  exact ho.appendR (ext_any _ w) (hr.ext (ext_any _ w)) (by simpa using hl) fun v' W' h1 h2 _ => ⟨h1, h2⟩
theorem bclone_spec {w : World} {v : Value} {l : List UInt8} (hr : Row w v (bytesV l)) (hl : l.length ≤ 1099511627776) : Call Try.prog 109 #[v] w fun u w' => OwnB w w' u l ∧ Ext w w' := by
  apply vc109
  unfold V109
  obtain ⟨a, c, rfl, h1, h2⟩ := id hr
  refine does_of (run_eql_slice_nil' u_bytes w) (condP_of (fun hn => ?_) fun hn => ?_)
  · have : a = none := by simpa using hn
    subst this
    have : l = [] := by
      cases l with
      | nil => rfl
      | cons x l => obtain ⟨ad, h3, _⟩ := h2 0 (u8V x) (by simp [bytesV, u8V]); cases h3
    subst this
    exact ⟨OwnB.nil _ _, Ext.refl _⟩
  · refine does_of (run_build0 w) ?_
    have ho : OwnB w (w.alloc (.cells #[] 5)) (.slice (some ⟨w.heap.size, 0, none⟩) 0 0) [] := own_empty _ (Nat.le_refl _)
    exact ho.appendR (ext_any _ w) (hr.ext (ext_any _ w)) (by simpa using hl) fun v' W' h1 h2 _ => ⟨h1, h2⟩
end Go.Proofs.Ytcncgkkilgmphaa

set_option linter.unusedVariables false
set_option linter.unusedSimpArgs false
namespace Go.Proofs.Ytcncgkkilgmphaa
open Go Go.RowKit

/-! ### plain -/
theorem grp_none : ∀ {b : List UInt8}, (∀ c ∈ b, 128 ≤ c.toNat) → grp b = none
  | [], _ => rfl
  | c :: l, h => by
    unfold grp
    rw [if_neg (by have := h c (by simp); omega), grp_none fun x hx => h x (by simp [hx])]
    rfl
theorem grp_at : ∀ {b : List UInt8} {i : Nat} {x : UInt8}, (∀ c ∈ b.take i, 128 ≤ c.toNat) → b[i]? = some x → x.toNat < 128 → grp b = some (b.take (i + 1))
  | [], i, x, _, h, _ => by simp at h
  | c :: l, 0, x, _, h, hx => by
    simp at h
    subst h
    unfold grp
    rw [if_pos hx]
    simp
  | c :: l, i + 1, x, hall, h, hx => by
    unfold grp
    rw [if_neg (by have := hall c (by simp); omega), grp_at (b := l) (i := i) (x := x) (fun y hy => hall y (by simp [hy])) (by simpa using h) hx]
    simp
theorem val_append : ∀ (a b : List UInt8), val (a ++ b) = val a + 128 ^ a.length * val b
  | [], b => by simp [val]
  | c :: a, b => by
    simp only [List.cons_append, val, val_append a b, List.length_cons, Nat.pow_succ]
    rw [Nat.mul_add, ← Nat.mul_assoc, Nat.mul_comm 128 (128 ^ a.length)]
    omega
theorem val_lt : ∀ a : List UInt8, val a < 128 ^ a.length
  | [] => by simp [val]
  | c :: a => by
    have := val_lt a
    simp only [val, List.length_cons, Nat.pow_succ]
    omega
theorem pow128 (k : Nat) : 128 ^ k = 2 ^ (7 * k) := by rw [Nat.pow_mul]
theorem or_step7 {n c k : Nat} (hn : n < 2 ^ (7 * k)) : n ||| c * 2 ^ (7 * k) = n + 2 ^ (7 * k) * c := by
  have := Nat.two_pow_add_eq_or_of_lt (i := 7 * k) hn c
  rw [Nat.or_comm, Nat.mul_comm c, ← this, Nat.add_comm]
/-- a number and where it ends, or an error -/
def getV (l : List UInt8) (at_ : Nat) : Value :=
  .tuple (if (getR (l.drop at_)).2.2 = 0 then #[.int .i64 ((getR (l.drop at_)).1 : Nat), .int .i64 ((at_ + (getR (l.drop at_)).2.1 : Nat) : Int), .int .i64 0] else #[.int .i64 0, .int .i64 0, .int .i64 (getR (l.drop at_)).2.2])
theorem getV_short {l : List UInt8} {a : Nat} (h : grp (l.drop a) = none) : getV l a = .tuple #[.int .i64 0, .int .i64 0, .int .i64 2] := by
  unfold getV getR
  simp [h]
theorem getV_form {l g : List UInt8} {a : Nat} (h : grp (l.drop a) = some g) (hb : ¬ (g.length ≤ 9 ∧ val g ≤ 72057594037927936 ∧ putL (val g) = g)) : getV l a = .tuple #[.int .i64 0, .int .i64 0, .int .i64 4] := by
  unfold getV getR
  simp only [h]
  rw [if_neg hb]
  simp
theorem getV_ok {l g : List UInt8} {a : Nat} (h : grp (l.drop a) = some g) (hb : g.length ≤ 9 ∧ val g ≤ 72057594037927936 ∧ putL (val g) = g) : getV l a = .tuple #[.int .i64 (val g : Nat), .int .i64 ((a + g.length : Nat) : Int), .int .i64 0] := by
  unfold getV getR
  simp only [h]
  rw [if_pos hb]
  simp
theorem and128 (x : UInt8) : x &&& 128 = 0 ↔ x.toNat < 128 := by
  have h : ∀ i : Fin 256, UInt8.ofNat i.val &&& 128 = 0 ↔ (UInt8.ofNat i.val).toNat < 128 := by decide +kernel
  have := h ⟨x.toNat, x.toNat_lt⟩
  simpa using this
theorem val_single (c : UInt8) : val [c] = c.toNat % 128 := by simp [val]
theorem run_gtN {P : Program} {t : TypeId} {a b : Nat} (w : World) : (binOp .gtr t (.int .i64 a) (.int .i64 b)).run P w = .ok (.bool (decide (b < a))) w := by rw [run_gt]; congr 2; rw [decide_eq_decide]; omega
structure ValSt where
  k : Nat
theorem and127n (x : UInt8) : (x &&& 127).toNat = x.toNat % 128 := by rw [UInt8.toNat_and]; exact Nat.and_two_pow_sub_one_eq_mod x.toNat 7
theorem take_drop_get {l : List UInt8} {a i : Nat} (ha : a ≤ i) : (l.drop a)[i - a]? = l[i]? := by rw [List.getElem?_drop]; congr 1; omega
theorem get_spec {w : World} {v : Value} {l : List UInt8} {a : Nat} (hr : Row w v (bytesV l)) (hl : l.length ≤ 1099511627776) (ha : a ≤ l.length) :
    Call Try.prog 118 #[v, .int .i64 a] w fun r w' => r = getV l a ∧ Ext w w' := by
  apply vc118
  unfold V118
  refine does_lt ?_
  refine or_join (decide (((l.length : Nat) : Int) < a)) (fun _ j hj => hr.len u_bytes (does_gt (by simpa using hj))) (condP_of (fun h => ?_) fun _ => ?_)
  · simp at h; omega
  refine rounds1 (fun i : Nat => .int .i64 i) (fun i W => a ≤ i ∧ i ≤ l.length ∧ W = w ∧ ∀ c ∈ (l.drop a).take (i - a), 128 ≤ c.toNat) (fun i _ => l.length - i) a rfl ⟨Nat.le_refl _, ha, rfl, by simp⟩ ?_
  rintro next i W ⟨hai, hi, rfl, hall⟩ hnext _
  refine hr.len u_bytes (does_lt ?_)
  rw [bytesV_length]
  rcases Nat.lt_or_ge i l.length with hlt | hge
  · have hx := List.getElem?_eq_getElem hlt
    refine and_join (!decide (l[i] &&& 128 = 0)) (fun _ j hj => does_byteAt hr (Ext.refl _) hx (does_of (run_and8 _ 128 W) (does_of (run_ne8 _ 0 W) hj))) ?_
    rw [show decide ((i : Int) < (l.length : Nat)) = true by simp; omega, Bool.true_and]
    have hx2 : (l.drop a)[i - a]? = some l[i] := by rw [take_drop_get hai, hx]
    refine condP_of (fun hb => ?_) fun hb => ?_
    · have h128 : 128 ≤ (l[i]).toNat := by
        simp only [Bool.not_eq_true', decide_eq_false_iff_not, and128] at hb
        omega
      refine does_add (by omega) (by omega) (hnext (i + 1) _ W (by simp) ⟨by omega, hlt, rfl, ?_⟩ (by omega))
      rw [show i + 1 - a = (i - a) + 1 by omega]
      obtain ⟨q1, q2⟩ := List.getElem?_eq_some_iff.1 hx2
      exact forall_take_succ q1 hall (by rw [q2]; exact h128)
    · have hlt128 : (l[i]).toNat < 128 := by
        simp only [Bool.not_eq_false', decide_eq_true_eq, and128] at hb
        exact hb
      have hg := grp_at hall hx2 hlt128
      refine hr.len u_bytes (does_of (run_eqI W) ?_)
      rw [show decide ((i : Int) = ((bytesV l).length : Nat)) = false by simp; omega, condP_false]
      refine does_add (by omega) (by omega) ?_
      rw [show ((i : Int) + 1) = ((i + 1 : Nat) : Int) by omega]
      refine hr.cut u_bytes sz_u8 (l := a) (h := i + 1) (by omega) (by simp; omega) fun x hxr => ?_
      have hgl : ((l.drop a).take (i - a + 1)).length = i - a + 1 := by simp; omega
      have hxe : ((bytesV l).take (i + 1)).drop a = bytesV ((l.drop a).take (i - a + 1)) := by
        unfold bytesV
        rw [← List.map_take, ← List.map_drop, List.drop_take]
        congr 2
        omega
      rw [hxe] at hxr
      generalize hgg : (l.drop a).take (i - a + 1) = g at hg hgl hxr
      refine hxr.len u_bytes (does_gt (condP_of (fun h9 => ?_) fun h9 => ?_))
      · exact ⟨(getV_form hg (by simp at h9; omega)).symm, Ext.refl _⟩
      have h9' : g.length ≤ 9 := by simp at h9; omega
      refine hxr.len u_bytes ?_
      refine rounds2 (σ := ValSt) (fun s => .int .i64 ((val (g.take s.k) : Nat) : Int)) (fun s => .int .i64 s.k) (fun s W' => s.k ≤ g.length ∧ W' = W) (fun s _ => g.length - s.k) ⟨0⟩ (by simp [val]) rfl ⟨Nat.zero_le _, rfl⟩ ?_
      rintro next2 ⟨k⟩ W' ⟨hk, hW'⟩ hnext2 _
      rw [hW']
      simp only at hk ⊢
      have hvk := val_lt (g.take k)
      have hkl : (g.take k).length = k := by simp; omega
      rw [hkl] at hvk
      have hpow : (128 : Nat) ^ k ≤ 9223372036854775808 := Nat.le_trans (Nat.pow_le_pow_right (by omega) (show k ≤ 9 by omega)) (by omega)
      refine does_lt (condP_of (fun hklt => ?_) fun hkge => ?_)
      · have hklt' : k < g.length := by simpa using hklt
        have hgx := List.getElem?_eq_getElem hklt'
        have hpow8 : (128 : Nat) ^ k ≤ 72057594037927936 := Nat.le_trans (Nat.pow_le_pow_right (by omega) (show k ≤ 8 by omega)) (by omega)
        refine does_byteAt hxr (Ext.refl _) hgx (does_of (run_and8 _ 127 W) (does_of (run_conv53 _ W) ?_))
        rw [and127n]
        refine does_of (run_mul64 (a := 7) (b := k) (by omega) W) ?_
        have hm := Nat.mod_lt (g[k]).toNat (show 0 < 128 by omega)
        have hprod : (g[k]).toNat % 128 * 2 ^ (7 * k) < 9223372036854775808 := by
          rw [← pow128]
          calc (g[k]).toNat % 128 * 128 ^ k ≤ 127 * 72057594037927936 := Nat.mul_le_mul (by omega) hpow8
            _ < 9223372036854775808 := by omega
        refine does_of (run_shl64 (k := 7 * k) (by omega) hprod W) (does_of (run_or64 (by omega) hprod W) ?_)
        rw [or_step7 (by rw [← pow128]; exact hvk), ← pow128]
        refine does_add (by omega) (by omega) (hnext2 ⟨k + 1⟩ _ _ W ?_ (by simp) ⟨hklt', rfl⟩ (by simp only; omega))
        rw [List.take_succ_eq_append_getElem hklt', val_append, hkl, val_single]
      · have hkg : k = g.length := by simp at hkge; omega
        rw [hkg, List.take_length] at hvk ⊢
        rw [hkg] at hpow
        refine does_lt ?_
        rw [show decide (((val g : Nat) : Int) < 0) = false by simp]
        refine or_join (decide (72057594037927936 < val g)) (fun _ j hj => does_of (run_gtN (b := 72057594037927936) W) hj) ?_
        rw [Bool.false_or]
        refine join1 (fun t W' => Ext W W' ∧ ((72057594037927936 < val g ∧ t = undef) ∨ t = .bool (!decide (putL (val g) = g)))) ?_ ?_
        rotate_left
        · intro j hj
          refine guardP_of (fun h => ?_) fun h => hj _ _ ⟨Ext.refl _, .inl ⟨by simpa using h, rfl⟩⟩
          refine (wput_spec (by omega)).mono fun u W1 ⟨h1, h2⟩ => ?_
          have hpl : (putL (val g)).length ≤ 9 := put_length_le (k := 9) (by omega) (by omega)
          refine (sequal_spec h1.row (hxr.ext h2) (by omega)).mono fun u2 W2 ⟨h3, h4⟩ => ?_
          subst h4
          exact does_of (run_not W2) (hj _ _ ⟨h2.trans h3, .inr rfl⟩)
        rintro t W1 ⟨hE1, ht⟩ _
        refine pickP_of ?_
        by_cases hbig : 72057594037927936 < val g
        · rw [show decide (72057594037927936 < val g) = true by simp [hbig]]
          rw [if_pos rfl, condP_true]
          exact ⟨(getV_form hg (by omega)).symm, hE1⟩
        · rw [show decide (72057594037927936 < val g) = false by simp; omega]
          rcases ht with ⟨h, _⟩ | rfl
          · omega
          simp only [Bool.false_eq_true, if_false]
          refine condP_of (fun h => ⟨(getV_form hg ?_).symm, hE1⟩) fun h => ⟨?_, hE1⟩
          · simp at h
            exact fun h' => h h'.2.2
          · simp at h
            rw [getV_ok hg ⟨h9', by omega, h⟩, hgl, show a + (i - a + 1) = i + 1 by omega]
  · have hie : i = l.length := by omega
    subst hie
    refine and_join (b2 := false) (fun h j hj => ?_) ?_
    · simp at h
    rw [Bool.and_false, condP_false]
    refine hr.len u_bytes (does_of (run_eqI W) ?_)
    rw [show decide ((l.length : Int) = ((bytesV l).length : Nat)) = true by simp, condP_true]
    refine ⟨(getV_short (grp_none ?_)).symm, Ext.refl _⟩
    rw [List.take_of_length_le (by simp)] at hall
    exact hall
theorem rput_big {w : World} {n : Nat} (hn : 72057594037927936 < n) : Call Try.prog 97 #[.int .i64 n] w fun v w' => v = .tuple #[.slice none 0 0, .int .i64 1] ∧ w' = w := by
  apply vc97
  unfold V97
  refine does_lt ?_
  refine or_join (decide ((72057594037927936 : Int) < n)) (fun _ j hj => does_gt hj) ?_
  refine condP_of (fun h => ⟨rfl, rfl⟩) fun h => ?_
  simp only [Bool.or_eq_false_iff, decide_eq_false_iff_not] at h
  omega
theorem or7 {n c : Nat} (hc : c < 128) : n * 2 ^ 7 ||| c = 128 * n + c := by
  have := Nat.two_pow_add_eq_or_of_lt (i := 7) (b := c) (by omega) n
  rw [show n * 2 ^ 7 = 2 ^ 7 * n by omega, ← this]
structure RevSt where
  m : Nat
theorem rget_spec {w : World} {v : Value} {l : List UInt8} {a : Nat} (hr : Row w v (bytesV l)) (hl : l.length ≤ 1099511627776) (ha : a ≤ l.length) :
    Call Try.prog 75 #[v, .int .i64 a] w fun r w' => r = getV l a ∧ Ext w w' := by
  apply vc75
  unfold V75
  refine does_lt ?_
  refine or_join (decide (((l.length : Nat) : Int) < a)) (fun _ j hj => hr.len u_bytes (does_gt (by simpa using hj))) (condP_of (fun h => ?_) fun _ => ?_)
  · simp at h; omega
  refine rounds1 (fun i : Nat => .int .i64 i) (fun i W => a ≤ i ∧ i ≤ l.length ∧ W = w ∧ ∀ c ∈ (l.drop a).take (i - a), 128 ≤ c.toNat) (fun i _ => l.length - i) a rfl ⟨Nat.le_refl _, ha, rfl, by simp⟩ ?_
  rintro next i W ⟨hai, hi, rfl, hall⟩ hnext _
  refine hr.len u_bytes (does_lt ?_)
  rw [bytesV_length]
  rcases Nat.lt_or_ge i l.length with hlt | hge
  · have hx := List.getElem?_eq_getElem hlt
    refine and_join (decide (127 < (l[i]).toNat)) (fun _ j hj => does_byteAt hr (Ext.refl _) hx (does_of (run_gt8 _ 127 W) hj)) ?_
    rw [show decide ((i : Int) < (l.length : Nat)) = true by simp; omega, Bool.true_and]
    have hx2 : (l.drop a)[i - a]? = some l[i] := by rw [take_drop_get hai, hx]
    refine condP_of (fun hb => ?_) fun hb => ?_
    · have h128 : 128 ≤ (l[i]).toNat := by
        simp only [decide_eq_true_eq] at hb
        omega
      refine does_add (by omega) (by omega) (hnext (i + 1) _ W (by simp) ⟨by omega, hlt, rfl, ?_⟩ (by omega))
      rw [show i + 1 - a = (i - a) + 1 by omega]
      obtain ⟨q1, q2⟩ := List.getElem?_eq_some_iff.1 hx2
      exact forall_take_succ q1 hall (by rw [q2]; exact h128)
    · have hlt128 : (l[i]).toNat < 128 := by
        simp only [decide_eq_false_iff_not] at hb
        omega
      have hg := grp_at hall hx2 hlt128
      refine hr.len u_bytes (does_of (run_eqI W) ?_)
      rw [show decide ((i : Int) = ((bytesV l).length : Nat)) = false by simp; omega, condP_false]
      have hgl : ((l.drop a).take (i - a + 1)).length = i - a + 1 := by simp; omega
      have hgget : ∀ j, a ≤ j → j ≤ i → l[j]? = ((l.drop a).take (i - a + 1))[j - a]? := fun j h1 h2 => by
        rw [List.getElem?_take, if_pos (by omega), take_drop_get h1]
      have hxe : ((bytesV l).take (i + 1)).drop a = bytesV ((l.drop a).take (i - a + 1)) := by
        unfold bytesV
        rw [← List.map_take, ← List.map_drop, List.drop_take]
        congr 2
        omega
      generalize hgg : (l.drop a).take (i - a + 1) = g at hg hgl hgget hxe
      refine does_sub (by omega) (by omega) (does_gt (condP_of (fun h9 => ?_) fun h9 => ?_))
      · exact ⟨(getV_form hg (by simp at h9; omega)).symm, Ext.refl _⟩
      have h9' : g.length ≤ 9 := by simp at h9; omega
      refine rounds2 (σ := RevSt) (fun s => .int .i64 ((val (g.drop (g.length - s.m)) : Nat) : Int)) (fun s => .int .i64 ((i : Int) - (s.m : Int))) (fun s W' => s.m ≤ g.length ∧ W' = W) (fun s _ => g.length - s.m) ⟨0⟩ (by simp [val]) (by simp) ⟨Nat.zero_le _, rfl⟩ ?_
      rintro next2 ⟨m⟩ W' ⟨hm, hW'⟩ hnext2 _
      rw [hW']
      simp only at hm ⊢
      refine does_ge (condP_of (fun hk => ?_) fun hk => ?_)
      · have hml : m < g.length := by simp at hk; omega
        have hv := val_lt (g.drop (g.length - m))
        rw [show (g.drop (g.length - m)).length = m by simp; omega] at hv
        have hpow8 : (128 : Nat) ^ m ≤ 72057594037927936 := Nat.le_trans (Nat.pow_le_pow_right (by omega) (show m ≤ 8 by omega)) (by omega)
        have hgx : l[i - m]? = some g[g.length - m - 1] := by
          rw [hgget (i - m) (by omega) (by omega), ← List.getElem?_eq_getElem (by omega)]
          congr 1
          omega
        rw [show ((i : Int) - (m : Int)) = ((i - m : Nat) : Int) by omega]
        refine does_of (run_shl64 (k := 7) (by omega) (by omega) W) (does_byteAt hr (Ext.refl _) hgx (does_of (run_and8 _ 127 W) (does_of (run_conv53 _ W) ?_)))
        rw [and127n]
        have hmod := Nat.mod_lt (g[g.length - m - 1]).toNat (show 0 < 128 by omega)
        refine does_of (run_or64 (by omega) (by omega) W) ?_
        rw [or7 hmod]
        refine does_sub (by omega) (by omega) (hnext2 ⟨m + 1⟩ _ _ W ?_ (by congr 1; simp only; omega) ⟨by simp only; omega, rfl⟩ (by simp only; omega))
        simp only
        rw [show g.length - (m + 1) = g.length - m - 1 by omega, List.drop_eq_getElem_cons (i := g.length - m - 1) (by omega), show g.length - m - 1 + 1 = g.length - m by omega]
        simp only [val]
        congr 2
        omega
      · have hmg : m = g.length := by simp at hk; omega
        rw [hmg, Nat.sub_self, List.drop_zero]
        have hvk := val_lt g
        have hpow : (128 : Nat) ^ g.length ≤ 9223372036854775808 := Nat.le_trans (Nat.pow_le_pow_right (by omega) h9') (by omega)
        by_cases hbig : 72057594037927936 < val g
        · refine (rput_big hbig).mono fun u W1 ⟨h1, h2⟩ => ?_
          subst h1 h2
          refine ex2a (ex2b (does_of (run_neI W1) ?_))
          rw [show (!decide ((1 : Int) = 0)) = true from rfl]
          refine join1 (fun _ W' => W' = W1) ?_ ?_
          · rintro t W2 rfl _
            rw [pickP_true, condP_true]
            exact ⟨(getV_form hg (by omega)).symm, Ext.refl _⟩
          · intro j hj
            rw [guardP_tf]
            exact hj _ _ rfl
        · refine (rput_spec (by omega)).mono fun u W1 ⟨sl, h1, h2, hE1⟩ => ?_
          subst h1
          refine ex2a (ex2b (does_of (run_neI W1) ?_))
          rw [show (!decide ((0 : Int) = 0)) = false from rfl]
          refine join1 (fun t W' => W' = W1 ∧ t = .bool (!decide (putL (val g) = g))) ?_ ?_
          rotate_left
          · intro j hj
            rw [guardP_ff]
            refine does_add (by omega) (by omega) ?_
            rw [show ((i : Int) + 1) = ((i + 1 : Nat) : Int) by omega]
            refine (hr.ext hE1).cut u_bytes sz_u8 (l := a) (h := i + 1) (by omega) (by simp; omega) fun x hxr => ?_
            rw [hxe] at hxr
            refine (rbytes_spec h2.row hxr).mono fun u2 W2 ⟨h3, h4⟩ => ?_
            subst h3 h4
            exact does_of (run_not W2) (hj _ _ ⟨rfl, rfl⟩)
          rintro t W2 ⟨rfl, rfl⟩ _
          rw [pickP_false]
          refine condP_of (fun h => ⟨(getV_form hg ?_).symm, hE1⟩) fun h => ?_
          · simp at h
            exact fun h' => h h'.2.2
          · simp at h
            refine does_add (by omega) (by omega) ⟨?_, hE1⟩
            rw [getV_ok hg ⟨h9', by omega, h⟩, hgl, show a + (i - a + 1) = i + 1 by omega]
            rfl
  · have hie : i = l.length := by omega
    subst hie
    refine and_join (b2 := false) (fun h j hj => ?_) ?_
    · simp at h
    rw [Bool.and_false, condP_false]
    refine hr.len u_bytes (does_of (run_eqI W) ?_)
    rw [show decide ((l.length : Int) = ((bytesV l).length : Nat)) = true by simp, condP_true]
    refine ⟨(getV_short (grp_none ?_)).symm, Ext.refl _⟩
    rw [List.take_of_length_le (by simp)] at hall
    exact hall
end Go.Proofs.Ytcncgkkilgmphaa
