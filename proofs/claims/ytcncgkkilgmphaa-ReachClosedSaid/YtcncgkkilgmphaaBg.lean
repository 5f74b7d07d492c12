/-
  Contracts: reading a number (wire.Get, marref1.Get).
-/
import Derived.Test.YtcncgkkilgmphaaBf
set_option linter.unusedVariables false
set_option linter.unusedSimpArgs false
namespace Go.Proofs.Ytcncgkkilgmphaa
open Go Go.RowKit

/-! ### plain -/
theorem grp_none : ∀ {b : List UInt8}, (∀ c ∈ b, 128 ≤ c.toNat) → grp b = none
  | [], _ => rfl
  | c :: l, h => by
    unfold grp
    rw [if_neg (by have := h c (by simp); omega), grp_none fun x hx => h x (by simp [hx])]
    rfl
theorem grp_at : ∀ {b : List UInt8} {i : Nat} {x : UInt8}, (∀ c ∈ b.take i, 128 ≤ c.toNat) → b[i]? = some x → x.toNat < 128 → grp b = some (b.take (i + 1))
  | [], i, x, _, h, _ => by simp at h
  | c :: l, 0, x, _, h, hx => by
    simp at h
    subst h
    unfold grp
    rw [if_pos hx]
    simp
  | c :: l, i + 1, x, hall, h, hx => by
    unfold grp
    rw [if_neg (by have := hall c (by simp); omega), grp_at (b := l) (i := i) (x := x) (fun y hy => hall y (by simp [hy])) (by simpa using h) hx]
    simp
theorem val_append : ∀ (a b : List UInt8), val (a ++ b) = val a + 128 ^ a.length * val b
  | [], b => by simp [val]
  | c :: a, b => by
    simp only [List.cons_append, val, val_append a b, List.length_cons, Nat.pow_succ]
    rw [Nat.mul_add, ← Nat.mul_assoc, Nat.mul_comm 128 (128 ^ a.length)]
    omega
theorem val_lt : ∀ a : List UInt8, val a < 128 ^ a.length
  | [] => by simp [val]
  | c :: a => by
    have := val_lt a
    simp only [val, List.length_cons, Nat.pow_succ]
    omega
theorem pow128 (k : Nat) : 128 ^ k = 2 ^ (7 * k) := by rw [Nat.pow_mul]
theorem or_step7 {n c k : Nat} (hn : n < 2 ^ (7 * k)) : n ||| c * 2 ^ (7 * k) = n + 2 ^ (7 * k) * c := by
  have := Nat.two_pow_add_eq_or_of_lt (i := 7 * k) hn c
  rw [Nat.or_comm, Nat.mul_comm c, ← this, Nat.add_comm]
/-- a number and where it ends, or an error -/
def getV (l : List UInt8) (at_ : Nat) : Value :=
  .tuple (if (getR (l.drop at_)).2.2 = 0 then #[.int .i64 ((getR (l.drop at_)).1 : Nat), .int .i64 ((at_ + (getR (l.drop at_)).2.1 : Nat) : Int), .int .i64 0] else #[.int .i64 0, .int .i64 0, .int .i64 (getR (l.drop at_)).2.2])
theorem getV_short {l : List UInt8} {a : Nat} (h : grp (l.drop a) = none) : getV l a = .tuple #[.int .i64 0, .int .i64 0, .int .i64 2] := by
  unfold getV getR
  simp [h]
theorem getV_form {l g : List UInt8} {a : Nat} (h : grp (l.drop a) = some g) (hb : ¬ (g.length ≤ 9 ∧ val g ≤ 72057594037927936 ∧ putL (val g) = g)) : getV l a = .tuple #[.int .i64 0, .int .i64 0, .int .i64 4] := by
  unfold getV getR
  simp only [h]
  rw [if_neg hb]
  simp
theorem getV_ok {l g : List UInt8} {a : Nat} (h : grp (l.drop a) = some g) (hb : g.length ≤ 9 ∧ val g ≤ 72057594037927936 ∧ putL (val g) = g) : getV l a = .tuple #[.int .i64 (val g : Nat), .int .i64 ((a + g.length : Nat) : Int), .int .i64 0] := by
  unfold getV getR
  simp only [h]
  rw [if_pos hb]
  simp
theorem and128 (x : UInt8) : x &&& 128 = 0 ↔ x.toNat < 128 := by
  have h : ∀ i : Fin 256, UInt8.ofNat i.val &&& 128 = 0 ↔ (UInt8.ofNat i.val).toNat < 128 := by decide +kernel
  have := h ⟨x.toNat, x.toNat_lt⟩
  simpa using this
theorem val_single (c : UInt8) : val [c] = c.toNat % 128 := by simp [val]
theorem run_gtN {P : Program} {t : TypeId} {a b : Nat} (w : World) : (binOp .gtr t (.int .i64 a) (.int .i64 b)).run P w = .ok (.bool (decide (b < a))) w := by rw [run_gt]; congr 2; rw [decide_eq_decide]; omega
structure ValSt where
  k : Nat
theorem and127n (x : UInt8) : (x &&& 127).toNat = x.toNat % 128 := by rw [UInt8.toNat_and]; exact Nat.and_two_pow_sub_one_eq_mod x.toNat 7
theorem take_drop_get {l : List UInt8} {a i : Nat} (ha : a ≤ i) : (l.drop a)[i - a]? = l[i]? := by rw [List.getElem?_drop]; congr 1; omega
theorem get_spec {w : World} {v : Value} {l : List UInt8} {a : Nat} (hr : Row w v (bytesV l)) (hl : l.length ≤ 1099511627776) (ha : a ≤ l.length) :
    Call Try.prog 118 #[v, .int .i64 a] w fun r w' => r = getV l a ∧ Ext w w' := by
  apply vc118
  unfold V118
  refine does_lt ?_
  refine or_join (decide (((l.length : Nat) : Int) < a)) (fun _ j hj => hr.len u_bytes (does_gt (by simpa using hj))) (condP_of (fun h => ?_) fun _ => ?_)
  · simp at h; omega
  refine rounds1 (fun i : Nat => .int .i64 i) (fun i W => a ≤ i ∧ i ≤ l.length ∧ W = w ∧ ∀ c ∈ (l.drop a).take (i - a), 128 ≤ c.toNat) (fun i _ => l.length - i) a rfl ⟨Nat.le_refl _, ha, rfl, by simp⟩ ?_
  rintro next i W ⟨hai, hi, rfl, hall⟩ hnext _
  refine hr.len u_bytes (does_lt ?_)
  rw [bytesV_length]
  rcases Nat.lt_or_ge i l.length with hlt | hge
  · have hx := List.getElem?_eq_getElem hlt
    refine and_join (!decide (l[i] &&& 128 = 0)) (fun _ j hj => does_byteAt hr (Ext.refl _) hx (does_of (run_and8 _ 128 W) (does_of (run_ne8 _ 0 W) hj))) ?_
    rw [show decide ((i : Int) < (l.length : Nat)) = true by simp; omega, Bool.true_and]
    have hx2 : (l.drop a)[i - a]? = some l[i] := by rw [take_drop_get hai, hx]
    refine condP_of (fun hb => ?_) fun hb => ?_
    · have h128 : 128 ≤ (l[i]).toNat := by
        simp only [Bool.not_eq_true', decide_eq_false_iff_not, and128] at hb
        omega
      refine does_add (by omega) (by omega) (hnext (i + 1) _ W (by simp) ⟨by omega, hlt, rfl, ?_⟩ (by omega))
      rw [show i + 1 - a = (i - a) + 1 by omega]
      obtain ⟨q1, q2⟩ := List.getElem?_eq_some_iff.1 hx2
      exact forall_take_succ q1 hall (by rw [q2]; exact h128)
    · have hlt128 : (l[i]).toNat < 128 := by
        simp only [Bool.not_eq_false', decide_eq_true_eq, and128] at hb
        exact hb
      have hg := grp_at hall hx2 hlt128
      refine hr.len u_bytes (does_of (run_eqI W) ?_)
      rw [show decide ((i : Int) = ((bytesV l).length : Nat)) = false by simp; omega, condP_false]
      refine does_add (by omega) (by omega) ?_
      rw [show ((i : Int) + 1) = ((i + 1 : Nat) : Int) by omega]
      refine hr.cut u_bytes sz_u8 (l := a) (h := i + 1) (by omega) (by simp; omega) fun x hxr => ?_
      have hgl : ((l.drop a).take (i - a + 1)).length = i - a + 1 := by simp; omega
      have hxe : ((bytesV l).take (i + 1)).drop a = bytesV ((l.drop a).take (i - a + 1)) := by
        unfold bytesV
        rw [← List.map_take, ← List.map_drop, List.drop_take]
        congr 2
        omega
      rw [hxe] at hxr
      generalize hgg : (l.drop a).take (i - a + 1) = g at hg hgl hxr
      refine hxr.len u_bytes (does_gt (condP_of (fun h9 => ?_) fun h9 => ?_))
      · exact ⟨(getV_form hg (by simp at h9; omega)).symm, Ext.refl _⟩
      have h9' : g.length ≤ 9 := by simp at h9; omega
      refine hxr.len u_bytes ?_
      refine rounds2 (σ := ValSt) (fun s => .int .i64 ((val (g.take s.k) : Nat) : Int)) (fun s => .int .i64 s.k) (fun s W' => s.k ≤ g.length ∧ W' = W) (fun s _ => g.length - s.k) ⟨0⟩ (by simp [val]) rfl ⟨Nat.zero_le _, rfl⟩ ?_
      rintro next2 ⟨k⟩ W' ⟨hk, hW'⟩ hnext2 _
      rw [hW']
      simp only at hk ⊢
      have hvk := val_lt (g.take k)
      have hkl : (g.take k).length = k := by simp; omega
      rw [hkl] at hvk
      have hpow : (128 : Nat) ^ k ≤ 9223372036854775808 := Nat.le_trans (Nat.pow_le_pow_right (by omega) (show k ≤ 9 by omega)) (by omega)
      refine does_lt (condP_of (fun hklt => ?_) fun hkge => ?_)
      · have hklt' : k < g.length := by simpa using hklt
        have hgx := List.getElem?_eq_getElem hklt'
        have hpow8 : (128 : Nat) ^ k ≤ 72057594037927936 := Nat.le_trans (Nat.pow_le_pow_right (by omega) (show k ≤ 8 by omega)) (by omega)
        refine does_byteAt hxr (Ext.refl _) hgx (does_of (run_and8 _ 127 W) (does_of (run_conv53 _ W) ?_))
        rw [and127n]
        refine does_of (run_mul64 (a := 7) (b := k) (by omega) W) ?_
        have hm := Nat.mod_lt (g[k]).toNat (show 0 < 128 by omega)
        have hprod : (g[k]).toNat % 128 * 2 ^ (7 * k) < 9223372036854775808 := by
          rw [← pow128]
          calc (g[k]).toNat % 128 * 128 ^ k ≤ 127 * 72057594037927936 := Nat.mul_le_mul (by omega) hpow8
            _ < 9223372036854775808 := by omega
        refine does_of (run_shl64 (k := 7 * k) (by omega) hprod W) (does_of (run_or64 (by omega) hprod W) ?_)
        rw [or_step7 (by rw [← pow128]; exact hvk), ← pow128]
        refine does_add (by omega) (by omega) (hnext2 ⟨k + 1⟩ _ _ W ?_ (by simp) ⟨hklt', rfl⟩ (by simp only; omega))
        rw [List.take_succ_eq_append_getElem hklt', val_append, hkl, val_single]
      · have hkg : k = g.length := by simp at hkge; omega
        rw [hkg, List.take_length] at hvk ⊢
        rw [hkg] at hpow
        refine does_lt ?_
        rw [show decide (((val g : Nat) : Int) < 0) = false by simp]
        refine or_join (decide (72057594037927936 < val g)) (fun _ j hj => does_of (run_gtN (b := 72057594037927936) W) hj) ?_
        rw [Bool.false_or]
        refine join1 (fun t W' => Ext W W' ∧ ((72057594037927936 < val g ∧ t = undef) ∨ t = .bool (!decide (putL (val g) = g)))) ?_ ?_
        rotate_left
        · intro j hj
          refine guardP_of (fun h => ?_) fun h => hj _ _ ⟨Ext.refl _, .inl ⟨by simpa using h, rfl⟩⟩
          refine (wput_spec (by omega)).mono fun u W1 ⟨h1, h2⟩ => ?_
          have hpl : (putL (val g)).length ≤ 9 := put_length_le (k := 9) (by omega) (by omega)
          refine (sequal_spec h1.row (hxr.ext h2) (by omega)).mono fun u2 W2 ⟨h3, h4⟩ => ?_
          subst h4
          exact does_of (run_not W2) (hj _ _ ⟨h2.trans h3, .inr rfl⟩)
        rintro t W1 ⟨hE1, ht⟩ _
        refine pickP_of ?_
        by_cases hbig : 72057594037927936 < val g
        · rw [show decide (72057594037927936 < val g) = true by simp [hbig]]
          rw [if_pos rfl, condP_true]
          exact ⟨(getV_form hg (by omega)).symm, hE1⟩
        · rw [show decide (72057594037927936 < val g) = false by simp; omega]
          rcases ht with ⟨h, _⟩ | rfl
          · omega
          simp only [Bool.false_eq_true, if_false]
          refine condP_of (fun h => ⟨(getV_form hg ?_).symm, hE1⟩) fun h => ⟨?_, hE1⟩
          · simp at h
            exact fun h' => h h'.2.2
          · simp at h
            rw [getV_ok hg ⟨h9', by omega, h⟩, hgl, show a + (i - a + 1) = i + 1 by omega]
  · have hie : i = l.length := by omega
    subst hie
    refine and_join (b2 := false) (fun h j hj => ?_) ?_
    · simp at h
    rw [Bool.and_false, condP_false]
    refine hr.len u_bytes (does_of (run_eqI W) ?_)
    rw [show decide ((l.length : Int) = ((bytesV l).length : Nat)) = true by simp, condP_true]
    refine ⟨(getV_short (grp_none ?_)).symm, Ext.refl _⟩
    rw [List.take_of_length_le (by simp)] at hall
    exact hall
theorem rput_big {w : World} {n : Nat} (hn : 72057594037927936 < n) : Call Try.prog 97 #[.int .i64 n] w fun v w' => v = .tuple #[.slice none 0 0, .int .i64 1] ∧ w' = w := by
  apply vc97
  unfold V97
  refine does_lt ?_
  refine or_join (decide ((72057594037927936 : Int) < n)) (fun _ j hj => does_gt hj) ?_
  refine condP_of (fun h => ⟨rfl, rfl⟩) fun h => ?_
  simp only [Bool.or_eq_false_iff, decide_eq_false_iff_not] at h
  omega
theorem or7 {n c : Nat} (hc : c < 128) : n * 2 ^ 7 ||| c = 128 * n + c := by
  have := Nat.two_pow_add_eq_or_of_lt (i := 7) (b := c) (by omega) n
  rw [show n * 2 ^ 7 = 2 ^ 7 * n by omega, ← this]
structure RevSt where
  m : Nat
theorem rget_spec {w : World} {v : Value} {l : List UInt8} {a : Nat} (hr : Row w v (bytesV l)) (hl : l.length ≤ 1099511627776) (ha : a ≤ l.length) :
    Call Try.prog 75 #[v, .int .i64 a] w fun r w' => r = getV l a ∧ Ext w w' := by
  apply vc75
  unfold V75
  refine does_lt ?_
  refine or_join (decide (((l.length : Nat) : Int) < a)) (fun _ j hj => hr.len u_bytes (does_gt (by simpa using hj))) (condP_of (fun h => ?_) fun _ => ?_)
  · simp at h; omega
  refine rounds1 (fun i : Nat => .int .i64 i) (fun i W => a ≤ i ∧ i ≤ l.length ∧ W = w ∧ ∀ c ∈ (l.drop a).take (i - a), 128 ≤ c.toNat) (fun i _ => l.length - i) a rfl ⟨Nat.le_refl _, ha, rfl, by simp⟩ ?_
  rintro next i W ⟨hai, hi, rfl, hall⟩ hnext _
  refine hr.len u_bytes (does_lt ?_)
  rw [bytesV_length]
  rcases Nat.lt_or_ge i l.length with hlt | hge
  · have hx := List.getElem?_eq_getElem hlt
    refine and_join (decide (127 < (l[i]).toNat)) (fun _ j hj => does_byteAt hr (Ext.refl _) hx (does_of (run_gt8 _ 127 W) hj)) ?_
    rw [show decide ((i : Int) < (l.length : Nat)) = true by simp; omega, Bool.true_and]
    have hx2 : (l.drop a)[i - a]? = some l[i] := by rw [take_drop_get hai, hx]
    refine condP_of (fun hb => ?_) fun hb => ?_
    · have h128 : 128 ≤ (l[i]).toNat := by
        simp only [decide_eq_true_eq] at hb
        omega
      refine does_add (by omega) (by omega) (hnext (i + 1) _ W (by simp) ⟨by omega, hlt, rfl, ?_⟩ (by omega))
      rw [show i + 1 - a = (i - a) + 1 by omega]
      obtain ⟨q1, q2⟩ := List.getElem?_eq_some_iff.1 hx2
      exact forall_take_succ q1 hall (by rw [q2]; exact h128)
    · have hlt128 : (l[i]).toNat < 128 := by
        simp only [decide_eq_false_iff_not] at hb
        omega
      have hg := grp_at hall hx2 hlt128
      refine hr.len u_bytes (does_of (run_eqI W) ?_)
      rw [show decide ((i : Int) = ((bytesV l).length : Nat)) = false by simp; omega, condP_false]
      have hgl : ((l.drop a).take (i - a + 1)).length = i - a + 1 := by simp; omega
      have hgget : ∀ j, a ≤ j → j ≤ i → l[j]? = ((l.drop a).take (i - a + 1))[j - a]? := fun j h1 h2 => by
        rw [List.getElem?_take, if_pos (by omega), take_drop_get h1]
      have hxe : ((bytesV l).take (i + 1)).drop a = bytesV ((l.drop a).take (i - a + 1)) := by
        unfold bytesV
        rw [← List.map_take, ← List.map_drop, List.drop_take]
        congr 2
        omega
      generalize hgg : (l.drop a).take (i - a + 1) = g at hg hgl hgget hxe
      refine does_sub (by omega) (by omega) (does_gt (condP_of (fun h9 => ?_) fun h9 => ?_))
      · exact ⟨(getV_form hg (by simp at h9; omega)).symm, Ext.refl _⟩
      have h9' : g.length ≤ 9 := by simp at h9; omega
      refine rounds2 (σ := RevSt) (fun s => .int .i64 ((val (g.drop (g.length - s.m)) : Nat) : Int)) (fun s => .int .i64 ((i : Int) - (s.m : Int))) (fun s W' => s.m ≤ g.length ∧ W' = W) (fun s _ => g.length - s.m) ⟨0⟩ (by simp [val]) (by simp) ⟨Nat.zero_le _, rfl⟩ ?_
      rintro next2 ⟨m⟩ W' ⟨hm, hW'⟩ hnext2 _
      rw [hW']
      simp only at hm ⊢
      refine does_ge (condP_of (fun hk => ?_) fun hk => ?_)
      · have hml : m < g.length := by simp at hk; omega
        have hv := val_lt (g.drop (g.length - m))
        rw [show (g.drop (g.length - m)).length = m by simp; omega] at hv
        have hpow8 : (128 : Nat) ^ m ≤ 72057594037927936 := Nat.le_trans (Nat.pow_le_pow_right (by omega) (show m ≤ 8 by omega)) (by omega)
        have hgx : l[i - m]? = some g[g.length - m - 1] := by
          rw [hgget (i - m) (by omega) (by omega), ← List.getElem?_eq_getElem (by omega)]
          congr 1
          omega
        rw [show ((i : Int) - (m : Int)) = ((i - m : Nat) : Int) by omega]
        refine does_of (run_shl64 (k := 7) (by omega) (by omega) W) (does_byteAt hr (Ext.refl _) hgx (does_of (run_and8 _ 127 W) (does_of (run_conv53 _ W) ?_)))
        rw [and127n]
        have hmod := Nat.mod_lt (g[g.length - m - 1]).toNat (show 0 < 128 by omega)
        refine does_of (run_or64 (by omega) (by omega) W) ?_
        rw [or7 hmod]
        refine does_sub (by omega) (by omega) (hnext2 ⟨m + 1⟩ _ _ W ?_ (by congr 1; simp only; omega) ⟨by simp only; omega, rfl⟩ (by simp only; omega))
        simp only
        rw [show g.length - (m + 1) = g.length - m - 1 by omega, List.drop_eq_getElem_cons (i := g.length - m - 1) (by omega), show g.length - m - 1 + 1 = g.length - m by omega]
        simp only [val]
        congr 2
        omega
      · have hmg : m = g.length := by simp at hk; omega
        rw [hmg, Nat.sub_self, List.drop_zero]
        have hvk := val_lt g
        have hpow : (128 : Nat) ^ g.length ≤ 9223372036854775808 := Nat.le_trans (Nat.pow_le_pow_right (by omega) h9') (by omega)
        by_cases hbig : 72057594037927936 < val g
        · refine (rput_big hbig).mono fun u W1 ⟨h1, h2⟩ => ?_
          subst h1 h2
          refine ex2a (ex2b (does_of (run_neI W1) ?_))
          rw [show (!decide ((1 : Int) = 0)) = true from rfl]
          refine join1 (fun _ W' => W' = W1) ?_ ?_
          · rintro t W2 rfl _
            rw [pickP_true, condP_true]
            exact ⟨(getV_form hg (by omega)).symm, Ext.refl _⟩
          · intro j hj
            rw [guardP_tf]
            exact hj _ _ rfl
        · refine (rput_spec (by omega)).mono fun u W1 ⟨sl, h1, h2, hE1⟩ => ?_
          subst h1
          refine ex2a (ex2b (does_of (run_neI W1) ?_))
          rw [show (!decide ((0 : Int) = 0)) = false from rfl]
          refine join1 (fun t W' => W' = W1 ∧ t = .bool (!decide (putL (val g) = g))) ?_ ?_
          rotate_left
          · intro j hj
            rw [guardP_ff]
            refine does_add (by omega) (by omega) ?_
            rw [show ((i : Int) + 1) = ((i + 1 : Nat) : Int) by omega]
            refine (hr.ext hE1).cut u_bytes sz_u8 (l := a) (h := i + 1) (by omega) (by simp; omega) fun x hxr => ?_
            rw [hxe] at hxr
            refine (rbytes_spec h2.row hxr).mono fun u2 W2 ⟨h3, h4⟩ => ?_
            subst h3 h4
            exact does_of (run_not W2) (hj _ _ ⟨rfl, rfl⟩)
          rintro t W2 ⟨rfl, rfl⟩ _
          rw [pickP_false]
          refine condP_of (fun h => ⟨(getV_form hg ?_).symm, hE1⟩) fun h => ?_
          · simp at h
            exact fun h' => h h'.2.2
          · simp at h
            refine does_add (by omega) (by omega) ⟨?_, hE1⟩
            rw [getV_ok hg ⟨h9', by omega, h⟩, hgl, show a + (i - a + 1) = i + 1 by omega]
            rfl
  · have hie : i = l.length := by omega
    subst hie
    refine and_join (b2 := false) (fun h j hj => ?_) ?_
    · simp at h
    rw [Bool.and_false, condP_false]
    refine hr.len u_bytes (does_of (run_eqI W) ?_)
    rw [show decide ((l.length : Int) = ((bytesV l).length : Nat)) = true by simp, condP_true]
    refine ⟨(getV_short (grp_none ?_)).symm, Ext.refl _⟩
    rw [List.take_of_length_le (by simp)] at hall
    exact hall
end Go.Proofs.Ytcncgkkilgmphaa
