/-
  Contracts: hexadecimal texts (sha.Hex, sha.Unhex, sha.Valid, marref1.Hex, marref1.Unhex, marref1.Valid).
-/
import Derived.Test.YtcncgkkilgmphaaBd
import Derived.Test.YtcncgkkilgmphaaH1
set_option linter.unusedVariables false
set_option linter.unusedSimpArgs false
namespace Go.Proofs.Ytcncgkkilgmphaa
open Go Go.RowKit

/-! ### facts of one stage -/
def StB (w0 : World) (k0 : Nat) (v : Value) (l : List UInt8) (k : Nat) (W : World) : Prop := k = k0 → OwnB w0 W v l
def FoB (w0 : World) (k0 : Nat) (l : List UInt8) (k : Nat) (v : Value) (W : World) : Prop := k = k0 → OwnB w0 W v l
def FrB (k0 : Nat) (l : List UInt8) (k : Nat) (v : Value) (W : World) : Prop := k = k0 → Row W v (bytesV l)
def FcV (x : Value) (k : Nat) (v : Value) (W : World) : Prop := v = x
theorem FoB.st (w0 : World) (k0 : Nat) (l : List UInt8) (k : Nat) : FSt Ext (FoB w0 k0 l k) := fun v W W' hE h hk => (h hk).ext hE
theorem FrB.st (k0 : Nat) (l : List UInt8) (k : Nat) : FSt Ext (FrB k0 l k) := fun v W W' hE h hk => (h hk).ext hE
theorem FcV.st (x : Value) (k : Nat) : FSt Ext (FcV x k) := fun v W W' hE h => h
theorem FoB.off {w0 : World} {k0 : Nat} {l : List UInt8} {k : Nat} {v : Value} {W : World} (h : k ≠ k0) : FoB w0 k0 l k v W := fun e => absurd e h
theorem FrB.off {k0 : Nat} {l : List UInt8} {k : Nat} {v : Value} {W : World} (h : k ≠ k0) : FrB k0 l k v W := fun e => absurd e h
theorem StB.ext {w0 : World} {k0 : Nat} {v : Value} {l : List UInt8} {k : Nat} {W W' : World} (h : StB w0 k0 v l k W) (hE : Ext W W') : StB w0 k0 v l k W' := fun hk => (h hk).ext hE
theorem run_build2 (x y : UInt8) (W : World) : (Instr.buildSlice 34 2 #[(0, u8V x), (1, u8V y)]).run Try.prog W = .ok (.slice (some ⟨W.heap.size, 0, none⟩) 2 2) (W.alloc (.cells #[u8V x, u8V y] 5)) := by
  simp [go_sem, Instr.buildSlice, u8V]
theorem own_two8 (x y : UInt8) (W : World) : OwnB W (W.alloc (.cells #[u8V x, u8V y] 5)) (.slice (some ⟨W.heap.size, 0, none⟩) 2 2) [x, y] :=
  ⟨rfl, .inr ⟨W.heap.size, 2, #[u8V x, u8V y], rfl, Nat.le_refl _, heap_alloc_new W _, Nat.le_refl _, by simp [maxLen], rfl, rfl⟩⟩
theorem ext_any (o : Obj) (W : World) : Ext W (W.alloc o) := (Ext.refl W).alloc _

def digs : List UInt8 := [48, 49, 50, 51, 52, 53, 54, 55, 56, 57, 97, 98, 99, 100, 101, 102]
theorem digs_get {n : Nat} (h : n < 16) : digs[n]? = some (dg n) := by
  have : ∀ m : Fin 16, digs[m.val]? = some (dg m.val) := by decide
  exact this ⟨n, h⟩
theorem bs_digs : bs { data := #[48, 49, 50, 51, 52, 53, 54, 55, 56, 57, 97, 98, 99, 100, 101, 102] } = digs := rfl
theorem and15 (x : UInt8) : (x &&& 15).toNat = x.toNat % 16 := by
  rw [UInt8.toNat_and]
  exact Nat.and_two_pow_sub_one_eq_mod x.toNat 4
theorem run_hi {s : ByteArray} (hs : bs s = digs) (x : UInt8) (W : World) : (Instr.index 9 (.string s) (.int .u8 ((x.toNat / 2 ^ 4 : Nat) : Int))).run Try.prog W = .ok (u8V (dg (x.toNat / 16))) W :=
  run_strAt (by rw [hs]; exact digs_get (by have := x.toNat_lt; omega)) W
theorem run_lo {s : ByteArray} (hs : bs s = digs) (x : UInt8) (W : World) : (Instr.index 9 (.string s) (u8V (x &&& 15))).run Try.prog W = .ok (u8V (dg (x.toNat % 16))) W := by
  unfold u8V
  rw [and15]
  exact run_strAt (by rw [hs]; exact digs_get (by omega)) W
theorem hexL_append : ∀ a b : List UInt8, hexL (a ++ b) = hexL a ++ hexL b
  | [], b => rfl
  | x :: a, b => by simp [hexL, hexL_append a b]
structure HexSt where
  i : Nat
  v : Value
theorem hex_spec {w : World} {v : Value} {l : List UInt8} (hr : Row w v (bytesV l)) (hl : l.length ≤ 549755813888) :
    Call Try.prog 119 #[v] w fun r w' => r = .string (hexS l) ∧ Ext w w' := by
  apply vc119
  unfold V119
  refine hr.len u_bytes ?_
  refine rounds2 (σ := HexSt) (fun s => s.v) (fun s => .int .i64 s.i) (fun s W => s.i ≤ l.length ∧ Ext w W ∧ OwnB w W s.v (hexL (l.take s.i))) (fun s _ => l.length - s.i) ⟨0, .slice none 0 0⟩ rfl rfl ⟨Nat.zero_le _, Ext.refl _, OwnB.nil _ _⟩ ?_
  rintro next ⟨i, v'⟩ W ⟨hi, hE, ho⟩ hnext _
  simp only at hi ho ⊢
  refine does_lt (condP_of (fun hlt => ?_) fun hge => ?_)
  · have hlt' : i < l.length := by simpa using hlt
    refine does_byteAt hr hE (List.getElem?_eq_getElem hlt') ?_
    have hlen := hexL_length (l.take i)
    have h2 : (l.take i).length = i := by simp; omega
    refine h119_5 w (StB w 0 v' (hexL (l.take i))) (FrB 0 [dg (l[i].toNat / 16), dg (l[i].toNat % 16)]) (FoB w 1 (hexL (l.take (i + 1)))) hE (FrB.st _ _) (FoB.st _ _ _) (fun _ => ho.ext (Ext.drawn W)) ?_
    refine qx (run_shr8 (k := 4) _ (by omega)) (qx (run_hi bs_digs _) (qx (run_and8 (l[i]) 15) (qx (run_lo bs_digs _) ⟨?_, ?_, ?_⟩)))
    · intro W1 hA hC
      exact does_of (run_build2 _ _ W1) ⟨ext_any _ W1, fun hk => (hC hk).ext (ext_any _ W1), fun _ => (own_two8 _ _ W1).row⟩
    · intro t W1 hA hC hF
      refine (hC rfl).appendR hA.2 (hF rfl) (by simp only [List.length_cons, List.length_nil]; omega) fun v2 W2 h1 h2 h3 => ⟨⟨h3.size, h2⟩, (fun h => by cases h), fun _ => ?_, (by intros; first | omega | exact FoB.off (by omega) | exact FrB.off (by omega)), trivial⟩
      rw [List.take_succ_eq_append_getElem hlt', hexL_append]
      exact h1
    · intro t W1 hA hC hF _
      exact does_add (by omega) (by omega) (hnext ⟨i + 1, t⟩ _ _ W1 rfl (by simp) ⟨by simp only; omega, hA.2, hF rfl⟩ (by simp only; omega))
  · have : i = l.length := by simp at hge; omega
    subst this
    rw [List.take_length] at ho
    exact does_of (run_conv_str ho.row) ⟨rfl, hE⟩
theorem rhex_spec {w : World} {v : Value} {l : List UInt8} (hr : Row w v (bytesV l)) (hl : l.length ≤ 549755813888) :
    Call Try.prog 55 #[v] w fun r w' => r = .string (hexS l) ∧ Ext w w' := by
  apply vc55
  unfold V55
  refine rounds2 (σ := HexSt) (fun s => s.v) (fun s => .int .i64 s.i) (fun s W => s.i ≤ l.length ∧ Ext w W ∧ OwnB w W s.v (hexL (l.take s.i))) (fun s _ => l.length - s.i) ⟨0, .slice none 0 0⟩ rfl rfl ⟨Nat.zero_le _, Ext.refl _, OwnB.nil _ _⟩ ?_
  rintro next ⟨i, v'⟩ W ⟨hi, hE, ho⟩ hnext _
  simp only at hi ho ⊢
  refine (hr.ext hE).len u_bytes (does_lt (condP_of (fun hlt => ?_) fun hge => ?_))
  · have hlt' : i < l.length := by simpa using hlt
    have hlen := hexL_length (l.take i)
    have h2 : (l.take i).length = i := by simp; omega
    obtain ⟨p, hp1, hp2⟩ := run_byteAt (W := w) (kk := .i64) hr (List.getElem?_eq_getElem hlt')
    have hld : ∀ W1, Stg w W (StB w 0 v' (hexL (l.take i))) 0 1 W1 → (Instr.loadAt 5 (.pointer (some p))).run Try.prog W1 = .ok (u8V l[i]) W1 := fun W1 hW => hp2 W1 hW.1.2
    refine h55_6 w (StB w 0 v' (hexL (l.take i))) (FrB 0 [dg (l[i].toNat / 16), dg (l[i].toNat % 16)]) (FoB w 1 (hexL (l.take (i + 1)))) hE (FrB.st _ _) (FoB.st _ _ _) (fun _ => ho.ext (Ext.drawn W)) ?_
    refine qx hp1 (qc hld (qx (run_shr8 (k := 4) _ (by omega)) (qx (run_hi bs_digs _) (qx hp1 (qc hld (qx (run_and8 (l[i]) 15) (qx (run_lo bs_digs _) ⟨?_, ?_, ?_⟩)))))))
    · intro W1 hA hC
      exact does_of (run_build2 _ _ W1) ⟨ext_any _ W1, fun hk => (hC hk).ext (ext_any _ W1), fun _ => (own_two8 _ _ W1).row⟩
    · intro t W1 hA hC hF
      refine (hC rfl).appendR hA.2 (hF rfl) (by simp only [List.length_cons, List.length_nil]; omega) fun v2 W2 h1 h2 h3 => ⟨⟨h3.size, h2⟩, (fun h => by cases h), fun _ => ?_, (by intros; first | omega | exact FoB.off (by omega) | exact FrB.off (by omega)), trivial⟩
      rw [List.take_succ_eq_append_getElem hlt', hexL_append]
      exact h1
    · intro t W1 hA hC hF _
      exact does_add (by omega) (by omega) (hnext ⟨i + 1, t⟩ _ _ W1 rfl (by simp) ⟨by simp only; omega, hA.2, hF rfl⟩ (by simp only; omega))
  · have : i = l.length := by simp at hge; omega
    subst this
    rw [List.take_length] at ho
    exact does_of (run_conv_str ho.row) ⟨rfl, hE⟩

/-! ### back -/
def dI (c : UInt8) : Int := (dv c).elim (-1) (fun n => (n : Int))
theorem indexByte_digs (c : UInt8) : Lib.indexByte digs c = dI c := by
  have h : ∀ i : Fin 256, Lib.indexByte digs (UInt8.ofNat i.val) = dI (UInt8.ofNat i.val) := by decide +kernel
  have := h ⟨c.toNat, c.toNat_lt⟩
  simpa using this
theorem index_digs {s : ByteArray} (hs : bs s = digs) (c : UInt8) (w : World) : Call Try.prog 108 #[.string s, u8V c] w fun v w' => v = .int .i64 (dI c) ∧ w' = w := by
  refine (indexByte_spec s (c.toNat : Int) w).mono fun v w' ⟨h1, h2⟩ => ⟨?_, h2⟩
  rw [h1, ← indexByte_digs c]
  have : s.data.toList = digs := hs
  rw [this]
  simp
theorem run_rem64 {P : Program} {t : TypeId} {a b : Nat} (hb : b ≠ 0) (w : World) : (binOp .rem t (.int .i64 a) (.int .i64 b)).run P w = .ok (.int .i64 ((a % b : Nat) : Int)) w := by
  rw [binOp_rem]
  unfold Op.intDiv
  rw [if_neg (by omega)]
  simp only [Sem.run_pure]
  rfl
theorem run_mul64 {P : Program} {t : TypeId} {a b : Nat} (h : a * b < 9223372036854775808) (w : World) : (binOp .mul t (.int .i64 a) (.int .i64 b)).run P w = .ok (.int .i64 ((a * b : Nat) : Int)) w := by
  rw [binOp_mul]
  simp only [Op.intArith, Sem.run_pure]
  have e : ((a : Int) * (b : Int)) = ((a * b : Nat) : Int) := by push_cast; rfl
  rw [e, wrap_i64 (by omega) (by omega)]
theorem digit_spec (c : UInt8) (w : World) : Call Try.prog 115 #[u8V c] w fun v w' => v = .int .i64 (dI c) ∧ w' = w := by
  apply vc115
  unfold V115
  have hc := c.toNat_lt
  have e1 : ∀ W : World, (binOp .geq 5 (u8V c) (.int .u8 48)).run Try.prog W = .ok (.bool (decide (48 ≤ c.toNat))) W := fun W => by unfold u8V; rw [run_ge]; congr 2; rw [decide_eq_decide]; omega
  have e2 : ∀ W : World, (binOp .leq 5 (u8V c) (.int .u8 57)).run Try.prog W = .ok (.bool (decide (c.toNat ≤ 57))) W := fun W => by unfold u8V; rw [run_le]; congr 2; rw [decide_eq_decide]; omega
  have e3 : ∀ W : World, (binOp .geq 5 (u8V c) (.int .u8 97)).run Try.prog W = .ok (.bool (decide (97 ≤ c.toNat))) W := fun W => by unfold u8V; rw [run_ge]; congr 2; rw [decide_eq_decide]; omega
  have e4 : ∀ W : World, (binOp .leq 5 (u8V c) (.int .u8 102)).run Try.prog W = .ok (.bool (decide (c.toNat ≤ 102))) W := fun W => by unfold u8V; rw [run_le]; congr 2; rw [decide_eq_decide]; omega
  have e5 : ∀ (n : Nat) (W : World), n ≤ c.toNat → (binOp .sub 5 (u8V c) (.int .u8 (n : Int))).run Try.prog W = .ok (u8V (UInt8.ofNat (c.toNat - n))) W := fun n W hn => by
    unfold u8V
    rw [binOp_sub]
    simp only [Op.intArith, Sem.run_pure, IntKind.wrap_u8]
    congr 2
    rw [toNat8]
    omega
  refine does_of (e1 w) (and_join (decide (c.toNat ≤ 57)) (fun _ j hj => does_of (e2 w) hj) (condP_of (fun h => ?_) fun h => ?_))
  · simp at h
    refine does_of (e5 48 w h.1) (does_of (run_conv53 _ w) ⟨?_, rfl⟩)
    unfold dI dv
    rw [if_pos h, toNat8]
    simp only [Option.elim_some]
    congr 1
    omega
  · have h' : ¬ (48 ≤ c.toNat ∧ c.toNat ≤ 57) := by simpa using h
    refine does_of (e3 w) (and_join (decide (c.toNat ≤ 102)) (fun _ j hj => does_of (e4 w) hj) (condP_of (fun h => ?_) fun h => ?_))
    · simp at h
      refine does_of (e5 97 w h.1) (does_of (run_conv53 _ w) (does_add (by rw [toNat8]; omega) (by rw [toNat8]; omega) ⟨?_, rfl⟩))
      unfold dI dv
      rw [if_neg h', if_pos h, toNat8]
      simp only [Option.elim_some]
      congr 1
      omega
    · have h2 : ¬ (97 ≤ c.toNat ∧ c.toNat ≤ 102) := by simpa using h
      unfold dI dv
      rw [if_neg h', if_neg h2]
      exact ⟨rfl, rfl⟩
/-- what a reader of hexadecimal texts hands back -/
def UnhexR (w w' : World) (s : ByteArray) (v : Value) : Prop :=
  Ext w w' ∧ ((∃ l sl, unhexL (bs s) = some l ∧ v = .tuple #[sl, .bool true] ∧ OwnB w w' sl l) ∨ (unhexL (bs s) = none ∧ v = .tuple #[.slice none 0 0, .bool false]))
theorem unhex_odd : ∀ (l : List UInt8), l.length % 2 ≠ 0 → unhexL l = none
  | [], h => by simp at h
  | [_], _ => rfl
  | a :: b :: l, h => by
    have := unhex_odd l (by simp only [List.length_cons] at h; omega)
    unfold unhexL
    split <;> simp [this]
theorem unhex_len : ∀ (l m : List UInt8), unhexL l = some m → l.length = 2 * m.length := fun l m h => by rw [← hex_unhex l m h, hexL_length]
theorem dI_neg {c : UInt8} : dI c < 0 ↔ dv c = none := by
  unfold dI
  cases dv c <;> simp
structure UnSt where
  i : Nat
  v : Value
  acc : List UInt8
theorem drop2 {l : List UInt8} {i : Nat} (h : i + 1 < l.length) : l.drop i = l[i] :: l[i + 1] :: l.drop (i + 2) := by
  rw [List.drop_eq_getElem_cons (by omega), List.drop_eq_getElem_cons (i := i + 1) (by omega)]
theorem unhex_step {l acc : List UInt8} {i : Nat} {a b : UInt8} {h k : Nat} (hd : l.drop i = a :: b :: l.drop (i + 2)) (ha : dv a = some h) (hb : dv b = some k) (hI : unhexL l = (unhexL (l.drop i)).map (acc ++ ·)) :
    unhexL l = (unhexL (l.drop (i + 2))).map ((acc ++ [UInt8.ofNat (16 * h + k)]) ++ ·) := by
  rw [hI, hd]
  simp only [unhexL, ha, hb]
  cases unhexL (l.drop (i + 2)) <;> simp
theorem unhex_fail {l acc : List UInt8} {i : Nat} {a b : UInt8} (hd : l.drop i = a :: b :: l.drop (i + 2)) (hn : dv a = none ∨ dv b = none) (hI : unhexL l = (unhexL (l.drop i)).map (acc ++ ·)) : unhexL l = none := by
  rw [hI, hd]
  rcases hn with h | h
  · simp [unhexL, h]
  · cases hv : dv a <;> simp [unhexL, h, hv]
theorem unhex_acc {l acc : List UInt8} {i : Nat} {a b : UInt8} {h k : Nat} (hI : unhexL l = (unhexL (l.drop i)).map (acc ++ ·)) (hi : 2 * acc.length = i) : acc.length ≤ i := by omega
theorem or_hk {h k : Nat} (hk : k < 16) : h * 2 ^ 4 ||| k = 16 * h + k := by
  have := Nat.two_pow_add_eq_or_of_lt (i := 4) (b := k) (by omega) h
  rw [show h * 2 ^ 4 = 2 ^ 4 * h by omega, ← this]
theorem unhex_spec {w : World} {s : ByteArray} (hs : (bs s).length ≤ 1099511627776) : Call Try.prog 91 #[.string s] w fun v w' => UnhexR w w' s v := by
  apply vc91
  unfold V91
  refine does_of (run_lenStr _ w) (does_of (run_rem64 (b := 2) (by omega) w) (does_of (run_neI w) (condP_of (fun h => ?_) fun h => ?_)))
  · exact ⟨Ext.refl _, .inr ⟨unhex_odd _ (by simp at h; omega), rfl⟩⟩
  have heven : (bs s).length % 2 = 0 := by simp at h; omega
  refine rounds2 (σ := UnSt) (fun s => s.v) (fun s => .int .i64 s.i) (fun t W => t.i ≤ (bs s).length ∧ t.i = 2 * t.acc.length ∧ Ext w W ∧ OwnB w W t.v t.acc ∧ unhexL (bs s) = (unhexL ((bs s).drop t.i)).map (t.acc ++ ·)) (fun t _ => (bs s).length - t.i) ⟨0, .slice none 0 0, []⟩ rfl rfl
    ⟨Nat.zero_le _, rfl, Ext.refl _, OwnB.nil _ _, by simp⟩ ?_
  rintro next ⟨i, v, acc⟩ W ⟨hi, hia, hE, ho, hI⟩ hnext _
  simp only at hi hia ho hI ⊢
  refine does_of (run_lenStr _ W) (does_lt (condP_of (fun hlt => ?_) fun hge => ?_))
  · have hlt' : i + 1 < (bs s).length := by simp at hlt; omega
    have hd := drop2 hlt'
    refine q91_7 (Ext W) (Ext.drawn _) fun _ => ?_
    refine qx (run_strAt (List.getElem?_eq_getElem (by omega))) (qcall_of (.int .i64 (dI (bs s)[i])) (fun W1 hW => (index_digs bs_digs _ W1).mono fun v W2 ⟨h1, h2⟩ => ⟨h1, by rw [h2]; exact hW⟩) ?_)
    refine qx (fun W1 => run_add (by omega) (by omega) W1) ?_
    refine qx (run_strAt (i := i + 1) (List.getElem?_eq_getElem hlt')) (qcall_of (.int .i64 (dI (bs s)[i + 1])) (fun W1 hW => (index_digs bs_digs _ W1).mono fun v W2 ⟨h1, h2⟩ => ⟨h1, by rw [h2]; exact hW⟩) ?_)
    intro W1 hW _
    refine does_lt (or_join (decide (dI (bs s)[i + 1] < 0)) (fun _ j hj => does_lt hj) (condP_of (fun hb => ?_) fun hok => ?_))
    · simp only [Bool.or_eq_true, decide_eq_true_eq] at hb
      exact ⟨hE.trans hW, .inr ⟨unhex_fail hd (hb.imp dI_neg.1 dI_neg.1) hI, rfl⟩⟩
    · simp only [Bool.or_eq_false_iff, decide_eq_false_iff_not] at hok
      cases ha : dv (bs s)[i] with
      | none => exact absurd (dI_neg.2 ha) hok.1
      | some h =>
        cases hb : dv (bs s)[i + 1] with
        | none => exact absurd (dI_neg.2 hb) hok.2
        | some k =>
          obtain ⟨_, h16⟩ := dg_dv ha
          obtain ⟨_, k16⟩ := dg_dv hb
          have e1 : dI (bs s)[i] = (h : Int) := by unfold dI; rw [ha]; rfl
          have e2 : dI (bs s)[i + 1] = (k : Int) := by unfold dI; rw [hb]; rfl
          rw [e1, e2]
          refine does_of (run_shl64 (k := 4) (by omega) (by omega) W1) (does_of (run_or64 (by omega) (by omega) W1) ?_)
          rw [or_hk k16]
          refine does_of (run_conv35 _ W1) ?_
          rw [b8_nat]
          refine (ho.ext hW).push (hE.trans hW) (by omega) fun v' W' h1 h2 _ => ?_
          exact does_add (by omega) (by omega) (hnext ⟨i + 2, v', acc ++ [UInt8.ofNat (16 * h + k)]⟩ _ _ W' rfl (by simp) ⟨by simp only; omega, by simp; omega, h2, h1, unhex_step hd ha hb hI⟩ (by simp only; omega))
  · have hie : i = (bs s).length := by simp at hge; omega
    rw [hie, List.drop_length] at hI
    exact ⟨hE, .inl ⟨acc, v, by rw [hI]; simp [unhexL], rfl, ho⟩⟩
theorem runhex_spec {w : World} {s : ByteArray} (hs : (bs s).length ≤ 1099511627776) : Call Try.prog 102 #[.string s] w fun v w' => UnhexR w w' s v := by
  apply vc102
  unfold V102
  refine does_of (run_lenStr _ w) (does_of (run_rem64 (b := 2) (by omega) w) (does_of (run_neI w) (condP_of (fun h => ?_) fun h => ?_)))
  · exact ⟨Ext.refl _, .inr ⟨unhex_odd _ (by simp at h; omega), rfl⟩⟩
  have heven : (bs s).length % 2 = 0 := by simp at h; omega
  refine rounds2 (σ := UnSt) (fun s => s.v) (fun s => .int .i64 s.i) (fun t W => t.i ≤ (bs s).length ∧ t.i = 2 * t.acc.length ∧ Ext w W ∧ OwnB w W t.v t.acc ∧ unhexL (bs s) = (unhexL ((bs s).drop t.i)).map (t.acc ++ ·)) (fun t _ => (bs s).length - t.i) ⟨0, .slice none 0 0, []⟩ rfl rfl
    ⟨Nat.zero_le _, rfl, Ext.refl _, OwnB.nil _ _, by simp⟩ ?_
  rintro next ⟨i, v, acc⟩ W ⟨hi, hia, hE, ho, hI⟩ hnext _
  simp only at hi hia ho hI ⊢
  refine does_of (run_lenStr _ W) (does_lt (condP_of (fun hlt => ?_) fun hge => ?_))
  · have hlt' : i + 1 < (bs s).length := by simp at hlt; omega
    have hd := drop2 hlt'
    refine q102_7 (Ext W) (Ext.drawn _) fun _ => ?_
    refine qx (run_strAt (List.getElem?_eq_getElem (by omega))) (qcall_of (.int .i64 (dI (bs s)[i])) (fun W1 hW => (digit_spec _ W1).mono fun v W2 ⟨h1, h2⟩ => ⟨h1, by rw [h2]; exact hW⟩) ?_)
    refine qx (fun W1 => run_add (by omega) (by omega) W1) ?_
    refine qx (run_strAt (i := i + 1) (List.getElem?_eq_getElem hlt')) (qcall_of (.int .i64 (dI (bs s)[i + 1])) (fun W1 hW => (digit_spec _ W1).mono fun v W2 ⟨h1, h2⟩ => ⟨h1, by rw [h2]; exact hW⟩) ?_)
    intro W1 hW _
    refine does_lt (or_join (decide (dI (bs s)[i + 1] < 0)) (fun _ j hj => does_lt hj) (condP_of (fun hb => ?_) fun hok => ?_))
    · simp only [Bool.or_eq_true, decide_eq_true_eq] at hb
      exact ⟨hE.trans hW, .inr ⟨unhex_fail hd (hb.imp dI_neg.1 dI_neg.1) hI, rfl⟩⟩
    · simp only [Bool.or_eq_false_iff, decide_eq_false_iff_not] at hok
      cases ha : dv (bs s)[i] with
      | none => exact absurd (dI_neg.2 ha) hok.1
      | some h =>
        cases hb : dv (bs s)[i + 1] with
        | none => exact absurd (dI_neg.2 hb) hok.2
        | some k =>
          obtain ⟨_, h16⟩ := dg_dv ha
          obtain ⟨_, k16⟩ := dg_dv hb
          have e1 : dI (bs s)[i] = (h : Int) := by unfold dI; rw [ha]; rfl
          have e2 : dI (bs s)[i + 1] = (k : Int) := by unfold dI; rw [hb]; rfl
          rw [e1, e2]
          refine does_of (run_mul64 (a := 16) (b := h) (by omega) W1) (does_add (by omega) (by omega) ?_)
          rw [show (((16 * h : Nat) : Int) + (k : Int)) = ((16 * h + k : Nat) : Int) by omega]
          refine does_of (run_conv35 _ W1) ?_
          rw [b8_nat]
          refine (ho.ext hW).push (hE.trans hW) (by omega) fun v' W' h1 h2 _ => ?_
          exact does_add (by omega) (by omega) (hnext ⟨i + 2, v', acc ++ [UInt8.ofNat (16 * h + k)]⟩ _ _ W' rfl (by simp) ⟨by simp only; omega, by simp; omega, h2, h1, unhex_step hd ha hb hI⟩ (by simp only; omega))
  · have hie : i = (bs s).length := by simp at hge; omega
    rw [hie, List.drop_length] at hI
    exact ⟨hE, .inl ⟨acc, v, by rw [hI]; simp [unhexL], rfl, ho⟩⟩
theorem unhexR_valid {w w1 : World} {s : ByteArray} {v : Value} (h : UnhexR w w1 s v) : ∃ sl b l, v = .tuple #[sl, .bool b] ∧ Row w1 sl (bytesV l) ∧ ((b && decide ((l.length : Int) = 32)) = true ↔ Valid s) := by
  obtain ⟨_, ⟨l, sl, h1, h2, h3⟩ | ⟨h1, h2⟩⟩ := h
  · refine ⟨sl, true, l, h2, h3.row, ?_⟩
    simp only [Bool.true_and, decide_eq_true_eq]
    constructor
    · exact fun h => ⟨l, h1, by omega⟩
    · rintro ⟨m, g1, g2⟩
      rw [h1] at g1
      cases g1
      omega
  · refine ⟨_, false, [], h2, Row.nil _ _ _, ?_⟩
    simp only [Bool.false_and]
    constructor
    · intro h; cases h
    · rintro ⟨m, g1, g2⟩
      rw [h1] at g1
      cases g1
theorem valid_spec {w : World} {s : ByteArray} (hs : (bs s).length ≤ 1099511627776) : Call Try.prog 87 #[.string s] w fun v w' => Ext w w' ∧ ∃ b : Bool, v = .bool b ∧ (b = true ↔ Valid s) := by
  apply vc87
  unfold V87
  refine (unhex_spec hs).mono fun v w1 hU => ?_
  obtain ⟨sl, b, l, hv, hr, hb⟩ := unhexR_valid hU
  subst hv
  refine ex2a (ex2b (and_join (decide ((l.length : Int) = 32)) (fun _ j hj => hr.len u_bytes (does_of (run_eqI w1) (by simpa using hj))) ⟨hU.1, _, rfl, hb⟩))
theorem rvalid_spec {w : World} {s : ByteArray} (hs : (bs s).length ≤ 1099511627776) : Call Try.prog 99 #[.string s] w fun v w' => Ext w w' ∧ ∃ b : Bool, v = .bool b ∧ (b = true ↔ Valid s) := by
  apply vc99
  unfold V99
  refine (runhex_spec hs).mono fun v w1 hU => ?_
  obtain ⟨sl, b, l, hv, hr, hb⟩ := unhexR_valid hU
  subst hv
  refine ex2a (ex2b (and_join (decide ((l.length : Int) = 32)) (fun _ j hj => hr.len u_bytes (does_of (run_eqI w1) (by simpa using hj))) ⟨hU.1, _, rfl, hb⟩))
/-- a hash's bytes behind others -/
theorem hash_spec {w0 w : World} {b : Value} {l : List UInt8} {s : ByteArray} (ho : OwnB w0 w b l) (hE : Ext w0 w) (hs : Valid s) (hl : l.length ≤ 1099511620000) :
    Call Try.prog 71 #[b, .string s] w fun v w' => OwnB w0 w' v (l ++ rawL s) ∧ Ext w0 w' ∧ Mod b.ownBlock w w' := by
  apply vc71
  unfold V71
  obtain ⟨m, hm, hm32⟩ := hs
  have hlen := unhex_len _ _ hm
  refine (unhex_spec (by omega)).mono fun v w1 ⟨hE1, hU⟩ => ?_
  rcases hU with ⟨m', sl, h1, rfl, h3⟩ | ⟨h1, _⟩
  · rw [hm] at h1
    cases h1
    refine ex2a (ex2b ((ho.ext hE1).appendR (hE.trans hE1) h3.row (by omega) fun v' W' g1 g2 g3 => ⟨?_, g2, (Mod.ofExt hE1).trans g3⟩))
    unfold rawL
    rw [hm]
    exact g1
  · rw [hm] at h1; cases h1
theorem raw_spec {w : World} {s : ByteArray} (hs : Valid s) : Call Try.prog 78 #[.string s] w fun v w' => OwnB w w' v (rawL s) ∧ Ext w w' := by
  apply vc78
  unfold V78
  obtain ⟨m, hm, hm32⟩ := hs
  have hlen := unhex_len _ _ hm
  refine (runhex_spec (by omega)).mono fun v w1 ⟨hE1, hU⟩ => ?_
  rcases hU with ⟨m', sl, h1, rfl, h3⟩ | ⟨h1, _⟩
  · rw [hm] at h1
    cases h1
    refine ex2a (ex2b ⟨?_, hE1⟩)
    unfold rawL
    rw [hm]
    exact h3
  · rw [hm] at h1; cases h1
end Go.Proofs.Ytcncgkkilgmphaa
