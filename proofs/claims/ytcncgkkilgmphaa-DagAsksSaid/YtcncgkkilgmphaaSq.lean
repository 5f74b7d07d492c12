/-
  Contracts of the stable sort of texts by a function value, from swapped ranges up.
-/
import Derived.Test.YtcncgkkilgmphaaSo
set_option linter.unusedVariables false
set_option linter.unusedSimpArgs false
namespace Go.Proofs.Ytcncgkkilgmphaa
open Go Go.RowKit

theorem set_get {α : Type} {xs A C : List α} {x y : α} {i : Nat} (h : xs = A ++ x :: C) (hi : i = A.length) : xs[i]? = some x ∧ xs.set i y = A ++ y :: C := by
  subst h; subst hi
  exact ⟨get_mid _ _ _, set_mid _ _ _ _⟩
theorem swap_two {α : Type} {xs A B C : List α} {x y : α} {i j : Nat} (h : xs = A ++ x :: (B ++ y :: C)) (hi : i = A.length) (hj : j = A.length + 1 + B.length) :
    xs[i]? = some x ∧ xs[j]? = some y ∧ (xs.set i y).set j x = A ++ y :: (B ++ x :: C) := by
  have h1 := set_get (y := y) h hi
  have h2 : xs[j]? = some y := (set_get (y := y) (A := A ++ x :: B) (x := y) (C := C) (by rw [h]; simp) (by rw [hj]; simp; omega)).1
  refine ⟨h1.1, h2, ?_⟩
  rw [h1.2]
  have h3 := (set_get (xs := A ++ y :: (B ++ y :: C)) (y := x) (A := A ++ y :: B) (x := y) (C := C) (i := j) (by simp) (by rw [hj]; simp; omega)).2
  rw [h3]
  simp
structure SwapSt where
  u1 : List ByteArray
  u2 : List ByteArray
  v1 : List ByteArray
  v2 : List ByteArray
theorem swapRange_spec {w : World} {base a b n : Nat} {s cl : Value} {p u r v q : List ByteArray} (ho : Own w base 9 s (strsV (p ++ u ++ r ++ v ++ q))) (hu : u.length = n) (hv : v.length = n) (ha : a = p.length) (hb : b = p.length + u.length + r.length) :
    Call Try.prog 120 #[s, .int .i64 a, .int .i64 b, .int .i64 n, cl] w fun _ W => Own W base 9 s (strsV (p ++ v ++ r ++ u ++ q)) ∧ Mod s.ownBlock w W := by
  apply vc120
  unfold V120
  have hle := ho.row.len_le
  simp at hle
  refine rounds1 (σ := SwapSt) (fun t => .int .i64 (t.u1.length : Nat)) (fun t W => u = t.u1 ++ t.u2 ∧ v = t.v1 ++ t.v2 ∧ t.u1.length = t.v1.length ∧ Own W base 9 s (strsV (p ++ t.v1 ++ t.u2 ++ r ++ t.u1 ++ t.v2 ++ q)) ∧ Mod s.ownBlock w W) (fun t _ => t.u2.length)
    ⟨[], u, [], v⟩ rfl ⟨rfl, rfl, rfl, by simpa using ho, Mod.refl _ _⟩ ?_
  rintro next ⟨u1, u2, v1, v2⟩ W ⟨hue, hve, hl, hoW, hM⟩ hnext _
  simp only at hue hve hl hoW hM ⊢
  have hul : u1.length + u2.length = n := by rw [← hu, hue]; simp
  have hvl : v1.length + v2.length = n := by rw [← hv, hve]; simp
  refine does_lt (condP_of (fun hlt => ?_) fun hge => ?_)
  · simp only [decide_eq_true_eq, Int.ofNat_lt] at hlt
    match u2, v2, hul, hvl with
    | [], _, hul, _ => simp at hul; omega
    | _ :: _, [], _, hvl => simp at hvl; omega
    | x :: u2, y :: v2, hul, hvl =>
      have hsw := swap_two (xs := p ++ v1 ++ (x :: u2) ++ r ++ u1 ++ (y :: v2) ++ q) (A := p ++ v1) (x := x) (B := u2 ++ r ++ u1) (y := y) (C := v2 ++ q) (i := a + u1.length) (j := b + u1.length) (by simp) (by simp; omega) (by
        simp [hb, hue]; omega)
      refine sw120 hoW ?_ hsw.1 hsw.2.1 fun W2 ho2 hM2 _ => ?_
      · rw [ha, hb, hue]
        simp
        omega
      rw [hsw.2.2] at ho2
      refine does_of (add1 (by simp only [List.length_cons] at hul; omega) W2) ?_
      refine hnext ⟨u1 ++ [x], u2, v1 ++ [y], v2⟩ _ W2 (by simp) ⟨by simpa using hue, by simpa using hve, by simpa using hl, by simpa using ho2, hM.trans hM2⟩ (by simp)
  · simp only [decide_eq_false_iff_not, Int.ofNat_lt] at hge
    have h1 : u2 = [] := List.eq_nil_of_length_eq_zero (by omega)
    have h2 : v2 = [] := List.eq_nil_of_length_eq_zero (by omega)
    subst h1; subst h2
    rw [List.append_nil] at hue hve
    subst hue; subst hve
    exact ⟨by simpa using hoW, hM⟩
structure RotSt where
  P : List ByteArray
  U : List ByteArray
  V : List ByteArray
  Q : List ByteArray
theorem rotate_spec {w : World} {base a m b : Nat} {s cl : Value} {p u v q : List ByteArray} (ho : Own w base 9 s (strsV (p ++ u ++ v ++ q))) (ha : a = p.length) (hm : m = p.length + u.length) (hb : b = p.length + u.length + v.length) (hu : u ≠ []) (hv : v ≠ []) :
    Call Try.prog 116 #[s, .int .i64 a, .int .i64 m, .int .i64 b, cl] w fun _ W => Own W base 9 s (strsV (p ++ v ++ u ++ q)) ∧ Mod s.ownBlock w W := by
  apply vc116
  unfold V116
  have hle := ho.row.len_le
  simp at hle
  refine does_of (subN (by omega) (by omega) w) (does_of (subN (by omega) (by omega) w) ?_)
  have hup : 0 < u.length := List.length_pos_iff.2 hu
  have hvp : 0 < v.length := List.length_pos_iff.2 hv
  refine rounds2 (σ := RotSt) (fun t => .int .i64 (t.U.length : Nat)) (fun t => .int .i64 (t.V.length : Nat)) (fun t W => Own W base 9 s (strsV (t.P ++ t.U ++ t.V ++ t.Q)) ∧ Mod s.ownBlock w W ∧ t.P.length + t.U.length = m ∧
      0 < t.U.length ∧ 0 < t.V.length ∧ t.P ++ t.V ++ t.U ++ t.Q = p ++ v ++ u ++ q) (fun t _ => t.U.length + t.V.length) ⟨p, u, v, q⟩ (by simp only; congr 1; omega) (by simp only; congr 1; omega) ⟨ho, Mod.refl _ _, by simp only; omega, hup, hvp, rfl⟩ ?_
  rintro next ⟨P, U, V, Q⟩ W ⟨hoW, hM, hPm, hU, hV, heq⟩ hnext _
  simp only at hoW hM hPm hU hV heq ⊢
  have hlen := congrArg List.length heq
  simp only [List.length_append] at hlen
  refine does_of (run_neI W) (condP_of (fun hne => ?_) fun hee => ?_)
  · have hne' : U.length ≠ V.length := by
      intro e; rw [e] at hne; simp at hne
    refine does_gt (condP_of (fun hgt => ?_) fun hle2 => ?_)
    · simp only [decide_eq_true_eq, Int.ofNat_lt] at hgt
      refine does_of (subN (by omega) (by omega) W) ?_
      have hU12 := List.take_append_drop V.length U
      have hU1 : (U.take V.length).length = V.length := by rw [List.length_take]; omega
      have hU2 : (U.drop V.length).length = U.length - V.length := List.length_drop
      have ho1 : Own W base 9 s (strsV (P ++ U.take V.length ++ U.drop V.length ++ V ++ Q)) := by
        rw [List.append_assoc P, hU12]; exact hoW
      refine (swapRange_spec (cl := cl) (a := m - U.length) (b := m) (n := V.length) ho1 hU1 rfl (by omega) (by rw [hU1, hU2]; omega)).mono fun _ W2 ⟨ho2, hM2⟩ => ?_
      refine does_of (subN (by omega) (by omega) W2) ?_
      refine hnext ⟨P ++ V, U.drop V.length, U.take V.length, Q⟩ _ _ W2 (by simp only [hU2]) (by simp only [hU1]) ⟨ho2, hM.trans hM2, by simp only [List.length_append, hU2]; omega, by simp only [hU2]; omega, by simp only [hU1]; omega, ?_⟩ (by simp only [hU1, hU2]; omega)
      simp only
      rw [← heq, List.append_assoc (P ++ V) (U.take V.length), hU12]
    · simp only [decide_eq_false_iff_not, Int.ofNat_lt] at hle2
      refine does_of (subN (by omega) (by omega) W) (does_of (addN (by omega) W) (does_of (subN (by omega) (by omega) W) ?_))
      have hV12 := List.take_append_drop (V.length - U.length) V
      have hV1 : (V.take (V.length - U.length)).length = V.length - U.length := by rw [List.length_take]; omega
      have hV2 : (V.drop (V.length - U.length)).length = U.length := by rw [List.length_drop]; omega
      have ho1 : Own W base 9 s (strsV (P ++ U ++ V.take (V.length - U.length) ++ V.drop (V.length - U.length) ++ Q)) := by
        rw [List.append_assoc (P ++ U), hV12]; exact hoW
      refine (swapRange_spec (cl := cl) (a := m - U.length) (b := m + V.length - U.length) (n := U.length) ho1 rfl hV2 (by omega) (by rw [hV1]; omega)).mono fun _ W2 ⟨ho2, hM2⟩ => ?_
      refine does_of (subN (by omega) (by omega) W2) ?_
      refine hnext ⟨P, V.drop (V.length - U.length), V.take (V.length - U.length), U ++ Q⟩ _ _ W2 (by simp only [hV2]) (by simp only [hV1]) ⟨by simpa using ho2, hM.trans hM2, by simp only [hV2]; omega, by simp only [hV2]; omega, by simp only [hV1]; omega, ?_⟩ (by simp only [hV1, hV2]; omega)
      simp only
      rw [← heq, List.append_assoc P, hV12]
      simp
  · have hee' : U.length = V.length := by
      simp at hee; omega
    refine does_of (subN (by omega) (by omega) W) ?_
    have ho1 : Own W base 9 s (strsV (P ++ U ++ [] ++ V ++ Q)) := by simpa using hoW
    refine (swapRange_spec (cl := cl) (a := m - U.length) (b := m) (n := U.length) ho1 rfl hee'.symm (by omega) (by simp; omega)).mono fun _ W2 ⟨ho2, hM2⟩ => ⟨?_, hM.trans hM2⟩
    rw [← heq]
    simpa using ho2

/-! ### 2. the comparing function -/
/-- cl, called while only block blk of w0 turns, answers a number below 0 just where lt says so; it turns nothing. -/
def CmpOk (w0 : World) (blk : Option Nat) (cl : Value) (lt : ByteArray → ByteArray → Bool) : Prop :=
  ∀ W, Mod blk w0 W → ∀ a b, ∃ c : Int, decide (c < 0) = lt a b ∧ ∀ {w2 : World} {k : Value → World → Prop}, k (.int .i64 c) w2 → QCallV Try.prog (Ext W) cl #[.string a, .string b] w2 k
theorem CmpOk.mod {w0 w1 : World} {blk : Option Nat} {cl : Value} {lt : ByteArray → ByteArray → Bool} (h : CmpOk w0 blk cl lt) (hm : Mod blk w0 w1) : CmpOk w1 blk cl lt := fun W hW => h W (hm.trans hW)
theorem q_text {w0 w : World} {s : Value} {xs : List ByteArray} {i : Nat} {x : ByteArray} {kk : IntKind} {k : Value → World → Prop} (hr : Row w0 s (strsV xs)) (hx : xs[i]? = some x) (hk : k (.string x) w) :
    Quiet Try.prog (Ext w0) (Instr.indexAt 23 s (.int kk i)) w fun t w => Quiet Try.prog (Ext w0) (Instr.loadAt 9 t) w k := by
  have hi := lt_of_get hx
  refine q_index hr u_strs sz_str (by simpa using hi) fun p hp => q_load agg_str hp ?_
  rw [strsV_get hi]
  have : xs[i] = x := by
    have := List.getElem?_eq_getElem hi
    rw [hx] at this
    exact (Option.some.inj this).symm
  rw [this]
  exact hk
theorem q_run {C : World → Prop} {s : Sem Value} {v : Value} {w : World} {k : Value → World → Prop} (h : ∀ W, s.run Try.prog W = .ok v W) (hk : k v w) : Quiet Try.prog C s w k := q_of h hk

/-! ### 3. insertion sort -/
structure InsSt where
  i : Nat
  z : List ByteArray
  rest : List ByteArray
structure InsSt2 where
  z1 : List ByteArray
  z2 : List ByteArray
theorem insertion_spec {lt : ByteArray → ByteArray → Bool} {O : WO lt} {w : World} {base a b : Nat} {s cl : Value} {p u q : List ByteArray} (ho : Own w base 9 s (strsV (p ++ u ++ q))) (ha : a = p.length) (hb : b = p.length + u.length) (hlen : p.length + u.length + q.length ≤ 1099511627776) (hc : CmpOk w s.ownBlock cl lt) :
    Call Try.prog 103 #[s, .int .i64 a, .int .i64 b, cl] w fun _ W => ∃ z, Own W base 9 s (strsV (p ++ z ++ q)) ∧ Mod s.ownBlock w W ∧ Asc lt z ∧ Stab lt u z := by
  apply vc103
  unfold V103
  have hle := ho.row.len_le
  simp at hle
  refine does_of (run_add (by omega) (by omega) w) ?_
  refine rounds1 (σ := InsSt) (fun t => .int .i64 (t.i : Nat)) (fun t W => Own W base 9 s (strsV (p ++ t.z ++ t.rest ++ q)) ∧ Mod s.ownBlock w W ∧ (t.i = p.length + t.z.length ∨ (t.rest = [] ∧ p.length + t.z.length ≤ t.i)) ∧ Asc lt t.z ∧ ∃ u0, u = u0 ++ t.rest ∧ Stab lt u0 t.z)
    (fun t _ => t.rest.length) ⟨a + 1, u.take 1, u.drop 1⟩ (by simp) ⟨by rw [List.append_assoc p, List.take_append_drop]; exact ho, Mod.refl _ _, ?_, ?_, u.take 1, (List.take_append_drop 1 u).symm, Stab.refl _⟩ ?_
  · cases u with
    | nil => right; simp; omega
    | cons x u => left; simp; omega
  · cases u with
    | nil => exact List.Pairwise.nil
    | cons x u => exact List.pairwise_singleton _ _
  rintro next ⟨i, z, rest⟩ W ⟨hoW, hM, hi, hz, u0, hu0, hst⟩ hnext _
  simp only at hoW hM hi hz hu0 hst ⊢
  have hul : u.length = z.length + rest.length := by rw [hu0, List.length_append, hst.1.length_eq]
  refine does_lt (condP_of (fun hlt => ?_) fun hge => ?_)
  · simp only [decide_eq_true_eq, Int.ofNat_lt] at hlt
    match rest, hul, hi, hoW, hu0, hnext with
    | [], hul, hi, _, _, _ => simp at hul hi; omega
    | x :: rest, hul, hi, hoW, hu0, hnext =>
      simp only [List.length_cons] at hul
      have hi' : i = p.length + z.length := by rcases hi with h | ⟨h, _⟩; exact h; cases h
      subst hi'
      refine rounds1 (σ := InsSt2) (fun t => .int .i64 ((p.length + t.z1.length : Nat) : Int)) (fun t W2 => Own W2 base 9 s (strsV (p ++ t.z1 ++ x :: (t.z2 ++ (rest ++ q)))) ∧ Mod s.ownBlock w W2 ∧ z = t.z1 ++ t.z2 ∧ ∀ y ∈ t.z2, lt x y = true)
        (fun t _ => t.z1.length) ⟨z, []⟩ rfl ⟨by simpa using hoW, hM, by simp, by simp⟩ ?_
      rintro next2 ⟨z1, z2⟩ W2 ⟨hoW2, hM2, hz12, hlt2⟩ hnext2 _
      simp only at hoW2 hM2 hz12 hlt2 ⊢
      have hzl : z.length = z1.length + z2.length := by rw [hz12]; simp
      -- the end of the inner loop
      have fin : ∀ W3, Ext W2 W3 → (∀ y ∈ z1, lt x y = false) → Does Try.prog (binOp .add 3 (.int .i64 ((p.length + z.length : Nat) : Int)) (.int .i64 1)) W3 fun t16 w => next t16 w := by
        intro W3 hE3 hz1
        refine does_of (add1 (by omega) W3) (hnext ⟨p.length + z.length + 1, z1 ++ x :: z2, rest⟩ _ W3 rfl ⟨by simpa using hoW2.ext hE3, hM2.trans (Mod.ofExt hE3), .inl (by simp; omega), asc_ins (O := O) (hz12 ▸ hz) hlt2 hz1, u0 ++ [x], by simp [hu0], ?_⟩ (by simp))
        refine (hst.append (Stab.refl [x])).trans ?_
        rw [hz12]
        exact stab_ins (O := O) hlt2
      refine q103_4 (Ext W2) (Ext.drawn W2) fun _ => ?_
      rcases List.eq_nil_or_concat z1 with h0 | ⟨z1', y, h0⟩
      · subst h0
        refine q_run (run_gt (a := ((p.length + ([] : List ByteArray).length : Nat) : Int)) (b := (a : Int))) ?_
        have e : decide ((a : Int) < ((p.length + ([] : List ByteArray).length : Nat) : Int)) = false := by simp; omega
        rw [e]
        refine and_join true (fun h => by cases h) ?_
        intro W3 hE3 _
        simp only [Bool.false_and]
        rw [condP_false]
        exact fin W3 hE3 (by simp)
      · rw [List.concat_eq_append] at h0
        subst h0
        have hl1 : (z1' ++ [y]).length = z1'.length + 1 := by simp
        have hsw := swap_two (xs := p ++ (z1' ++ [y]) ++ x :: (z2 ++ (rest ++ q))) (A := p ++ z1') (x := y) (B := []) (y := x) (C := z2 ++ (rest ++ q)) (i := p.length + (z1' ++ [y]).length - 1) (j := p.length + (z1' ++ [y]).length) (by simp) (by simp <;> omega) (by simp <;> omega)
        refine q_run (run_gt (a := ((p.length + (z1' ++ [y]).length : Nat) : Int)) (b := (a : Int))) ?_
        have e : decide ((a : Int) < ((p.length + (z1' ++ [y]).length : Nat) : Int)) = true := by simp; omega
        rw [e]
        obtain ⟨c, hclt, hcall⟩ := hc W2 hM2 x y
        refine and_join (lt x y) (fun _ j hj => ?_) ?_
        · refine q_text hoW2.row hsw.2.1 (q_run (fun W => sub1 (by omega) (by omega) W) (q_text hoW2.row hsw.1 (hcall (q_run (run_lt (a := c) (b := 0)) ?_))))
          rw [hclt]
          exact hj
        · intro W3 hE3 _
          rw [Bool.true_and]
          refine condP_of (fun ht => ?_) fun hf => ?_
          · have ho3 := hoW2.ext hE3
            have hj1 : 1 ≤ p.length + (z1' ++ [y]).length := by omega
            refine sw103 ho3 hj1 hsw.2.1 hsw.1 fun W4 ho4 hM4 _ => ?_
            refine does_of (sub1 hj1 (by omega) W4) ?_
            refine hnext2 ⟨z1', y :: z2⟩ _ W4 (by simp only; congr 1; simp <;> omega) ⟨?_, (hM2.trans (Mod.ofExt hE3)).trans hM4, by simpa using hz12, ?_⟩ (by simp)
            · have h5 := hsw.2.2
              rw [List.set_comm _ _ (by omega)] at h5
              rw [h5] at ho4
              simpa using ho4
            · intro y' hy'
              rcases List.mem_cons.1 hy' with e | hy'
              · rw [e]; exact ht
              · exact hlt2 y' hy'
          · refine fin W3 hE3 fun y' hy' => ?_
            have hzz : Asc lt (z1' ++ [y]) := (asc_append.1 (hz12 ▸ hz)).1
            rcases List.mem_append.1 hy' with hy' | hy'
            · exact O.ntrans hf ((asc_append.1 hzz).2.2 y' hy' y (by simp))
            · rw [List.mem_singleton.1 hy']; exact hf
  · simp only [decide_eq_false_iff_not, Int.ofNat_lt] at hge
    have hr : rest = [] := by
      rcases hi with h | ⟨h, _⟩
      · exact List.eq_nil_of_length_eq_zero (by omega)
      · exact h
    subst hr
    refine ⟨z, by simpa using hoW, hM, hz, ?_⟩
    rw [hu0, List.append_nil]
    exact hst
end Go.Proofs.Ytcncgkkilgmphaa
