/-
  Contracts of the stable sort of texts by a function value: merging in place, and the sort.
-/
import Derived.Test.YtcncgkkilgmphaaSq
set_option linter.unusedVariables false
set_option linter.unusedSimpArgs false
namespace Go.Proofs.Ytcncgkkilgmphaa
open Go Go.RowKit

theorem run_toU (n : Nat) (h : (n : Int) ≤ 9223372036854775807) (w : World) : (convert 3 112 (.int .i64 (n : Int))).run Try.prog w = .ok (.int .u64 (n : Int)) w := by
  simp [convert, go_sem]
  exact IntWalk.u64_in _ (by omega)
theorem run_toI (n : Nat) (h : (n : Int) ≤ 9223372036854775807) (w : World) : (convert 112 3 (.int .u64 (n : Int))).run Try.prog w = .ok (.int .i64 (n : Int)) w := by
  simp [convert, go_sem]
  exact IntWalk.i64_in _ (by omega)
theorem run_shr1 (n : Nat) (w : World) : (binOp .shr 112 (.int .u64 (n : Int)) (.int .u64 1)).run Try.prog w = .ok (.int .u64 ((n / 2 : Nat) : Int)) w := by
  simp [go_sem]
theorem does_mid {i j : Nat} {w : World} {k : Value → World → Prop} (h : (i : Int) + j ≤ 9223372036854775807) (hk : k (.int .i64 (((i + j) / 2 : Nat) : Int)) w) :
    Does Try.prog (binOp .add 3 (.int .i64 (i : Int)) (.int .i64 (j : Int))) w fun t36 w => Does Try.prog (convert 3 112 t36) w fun t37 w => Does Try.prog (binOp .shr 112 t37 (.int .u64 1)) w fun t38 w => Does Try.prog (convert 112 3 t38) w k :=
  does_of (addN h w) (does_of (run_toU (i + j) (by omega) w) (does_of (run_shr1 (i + j) w) (does_of (run_toI ((i + j) / 2) (by omega) w) hk)))
section
variable {lt : ByteArray → ByteArray → Bool}
theorem mem_take_get {l : List ByteArray} {n : Nat} {y : ByteArray} (h : y ∈ l.take n) : ∃ t, t < n ∧ l[t]? = some y := by
  obtain ⟨t, ht, e⟩ := List.mem_take_iff_getElem.1 h
  exact ⟨t, by omega, by rw [← e]; exact List.getElem?_eq_getElem _⟩
theorem mem_drop_get {l : List ByteArray} {n : Nat} {y : ByteArray} (h : y ∈ l.drop n) : ∃ t, n ≤ t ∧ l[t]? = some y := by
  obtain ⟨t, ht, e⟩ := List.mem_drop_iff_getElem.1 h
  exact ⟨n + t, by omega, by rw [← e]; exact List.getElem?_eq_getElem _⟩
theorem asc_get {l : List ByteArray} (h : Asc lt l) {O : WO lt} {i j : Nat} (hij : i ≤ j) {x y : ByteArray} (hx : l[i]? = some x) (hy : l[j]? = some y) : lt y x = false := by
  have hj := lt_of_get hy
  have := asc_le (O := O) h hij hj
  rw [List.getElem?_eq_getElem hj] at hy
  rw [List.getElem?_eq_getElem (by omega)] at hx
  cases hx; cases hy
  exact this
theorem get_left {p u r : List ByteArray} {t : Nat} {x : ByteArray} (h : u[t]? = some x) {k : Nat} (hk : k = p.length + t) : (p ++ u ++ r)[k]? = some x := by
  have := lt_of_get h
  subst hk
  rw [List.append_assoc, List.getElem?_append_right (by omega), List.getElem?_append_left (by omega), show p.length + t - p.length = t by omega]
  exact h
theorem get_right {p u v r : List ByteArray} {t : Nat} {x : ByteArray} (h : v[t]? = some x) {k : Nat} (hk : k = p.length + u.length + t) : (p ++ u ++ v ++ r)[k]? = some x :=
  get_left (p := p ++ u) h (by simp [hk])
theorem get_some {l : List ByteArray} {t : Nat} (h : t < l.length) : ∃ x, l[t]? = some x := ⟨_, List.getElem?_eq_getElem h⟩
structure ShSt where
  a : List ByteArray
  b : List ByteArray
/-- One text ahead of a row of them. -/
theorem symMerge_one (O : WO lt) {w : World} {base a m b : Nat} {s cl : Value} {p v q : List ByteArray} {x : ByteArray} (ho : Own w base 9 s (strsV (p ++ [x] ++ v ++ q))) (ha : a = p.length) (hm : m = p.length + 1) (hb : b = p.length + 1 + v.length)
    (hlen : p.length + 1 + v.length + q.length ≤ 1099511627776) (hv : Asc lt v) (hc : CmpOk w s.ownBlock cl lt) :
    Call Try.prog 104 #[s, .int .i64 a, .int .i64 m, .int .i64 b, cl] w fun _ W => ∃ z, Own W base 9 s (strsV (p ++ z ++ q)) ∧ Mod s.ownBlock w W ∧ Asc lt z ∧ Stab lt ([x] ++ v) z := by
  apply vc104
  unfold V104
  refine does_of (subN (by omega) (by omega) w) (does_eqI ?_)
  have e1 : decide (((m - a : Nat) : Int) = 1) = true := by rw [decide_eq_true_eq]; omega
  rw [e1, condP_true]
  refine rounds2 (σ := Nat × Nat) (fun t => .int .i64 ((m + t.1 : Nat) : Int)) (fun t => .int .i64 ((m + t.2 : Nat) : Int)) (fun t W => t.1 ≤ t.2 ∧ t.2 ≤ v.length ∧ Ext w W ∧ (∀ k y, k < t.1 → v[k]? = some y → lt y x = true) ∧ (∀ k y, t.2 ≤ k → v[k]? = some y → lt y x = false))
    (fun t _ => t.2 - t.1) (0, v.length) rfl (by simp only; congr 1; omega) ⟨Nat.zero_le _, Nat.le_refl _, Ext.refl _, by omega, fun k y hk hy => by have := lt_of_get hy; simp only at hk; omega⟩ ?_
  rintro next ⟨i, j⟩ W ⟨hij, hjl, hE, hlo, hhi⟩ hnext _
  simp only at hij hjl hE hlo hhi ⊢
  refine does_lt (condP_of (fun hlt => ?_) fun hge => ?_)
  · have hlt' : i < j := by simp only [decide_eq_true_eq, Int.ofNat_lt] at hlt; omega
    refine does_mid (by omega) ?_
    have hh : (m + i + (m + j)) / 2 = m + (i + j) / 2 := by omega
    rw [hh]
    have hc1 : (i + j) / 2 < v.length := by omega
    obtain ⟨y, hy⟩ := get_some hc1
    refine q104_5 (Ext W) (Ext.drawn W) fun _ => ?_
    obtain ⟨c, hclt, hcall⟩ := hc W (Mod.ofExt hE) y x
    refine q_text (ho.ext hE).row (get_right (t := (i + j) / 2) hy (by simp; omega)) (q_text (ho.ext hE).row (x := x) (i := a) ?_ (hcall (q_run (run_lt (a := c) (b := 0)) fun W2 hE2 _ => ?_)))
    · exact get_left (p := p) (u := [x]) (t := 0) (r := v ++ q) rfl (by omega) |> fun h => by simpa using h
    rw [hclt]
    refine condP_of (fun ht => ?_) fun hf => ?_
    · refine does_of (add1 (by omega) W2) (hnext ((i + j) / 2 + 1, j) _ _ W2 rfl rfl ⟨by simp only; omega, hjl, hE.trans hE2, fun k z hk hz => ?_, hhi⟩ (by simp only; omega))
      cases hh2 : lt z x
      · have h5 := asc_get hv (O := O) (i := k) (j := (i + j) / 2) (by simp only at hk; omega) hz hy
        have := O.ntrans h5 hh2
        rw [ht] at this
        cases this
      · rfl
    · refine hnext (i, (i + j) / 2) _ _ W2 rfl rfl ⟨by simp only; omega, by simp only; omega, hE.trans hE2, hlo, fun k z hk hz => ?_⟩ (by simp only; omega)
      exact O.ntrans (asc_get hv (O := O) (i := (i + j) / 2) (j := k) hk hy hz) hf
  · have hij2 : i = j := by simp only [decide_eq_false_iff_not, Int.ofNat_lt] at hge; omega
    subst hij2
    have hv1 : ∀ y ∈ v.take i, lt y x = true := fun y hy => by obtain ⟨t, h1, h2⟩ := mem_take_get hy; exact hlo t y h1 h2
    have hv2 : ∀ y ∈ v.drop i, lt y x = false := fun y hy => by obtain ⟨t, h1, h2⟩ := mem_drop_get hy; exact hhi t y h1 h2
    have hvv := List.take_append_drop i v
    have htl : (v.take i).length = i := by rw [List.length_take]; omega
    refine rounds1 (σ := ShSt) (fun t => .int .i64 ((a + t.a.length : Nat) : Int)) (fun t W => Own W base 9 s (strsV (p ++ t.a ++ x :: (t.b ++ (v.drop i ++ q)))) ∧ Mod s.ownBlock w W ∧ v.take i = t.a ++ t.b) (fun t _ => t.b.length) ⟨[], v.take i⟩ (by simp) ⟨?_, Mod.ofExt hE, rfl⟩ ?_
    · have : p ++ [] ++ x :: (v.take i ++ (v.drop i ++ q)) = p ++ [x] ++ v ++ q := by
        rw [← List.append_assoc (v.take i), hvv]; simp
      simp only
      rw [this]
      exact ho.ext hE
    rintro next2 ⟨za, zb⟩ W2 ⟨ho2, hM2, hz⟩ hnext2 _
    simp only at ho2 hM2 hz ⊢
    have hzl : za.length + zb.length = i := by rw [← htl, hz]; simp
    refine does_of (sub1 (by omega) (by omega) W2) (does_lt (condP_of (fun hlt2 => ?_) fun hge2 => ?_))
    · have hlt3 : za.length < i := by simp only [decide_eq_true_eq, Int.ofNat_lt] at hlt2; omega
      match zb, hzl, ho2, hz, hnext2 with
      | [], hzl, _, _, _ => simp at hzl; omega
      | y :: zb, hzl, ho2, hz, hnext2 =>
        have hsw := swap_two (xs := p ++ za ++ x :: (y :: zb ++ (v.drop i ++ q))) (A := p ++ za) (x := x) (B := []) (y := y) (C := zb ++ (v.drop i ++ q)) (i := a + za.length) (j := a + za.length + 1) (by simp) (by simp <;> omega) (by simp <;> omega)
        refine sw104a ho2 hsw.1 hsw.2.1 fun W3 ho3 hM3 _ => ?_
        rw [hsw.2.2] at ho3
        refine does_of (add1 (by omega) W3) (hnext2 ⟨za ++ [y], zb⟩ _ W3 (by simp only; congr 1; simp <;> omega) ⟨by simpa using ho3, hM2.trans hM3, by simpa using hz⟩ (by simp))
    · have hzb : zb = [] := by
        simp only [decide_eq_false_iff_not, Int.ofNat_lt] at hge2
        exact List.eq_nil_of_length_eq_zero (by omega)
      subst hzb
      rw [List.append_nil] at hz
      subst hz
      refine ⟨v.take i ++ x :: v.drop i, by simpa using ho2, hM2, asc_front (O := O) (hvv.symm ▸ hv) hv1 hv2, ?_⟩
      have := stab_front (O := O) (x := x) (v1 := v.take i) (v2 := v.drop i) hv1
      rw [hvv] at this
      exact this
/-- One text behind a row of more than one. -/
theorem symMerge_last (O : WO lt) {w : World} {base a m b : Nat} {s cl : Value} {p u q : List ByteArray} {y : ByteArray} (ho : Own w base 9 s (strsV (p ++ u ++ [y] ++ q))) (ha : a = p.length) (hm : m = p.length + u.length) (hb : b = p.length + u.length + 1)
    (hlen : p.length + u.length + 1 + q.length ≤ 1099511627776) (hu1 : u.length ≠ 1) (hu : Asc lt u) (hc : CmpOk w s.ownBlock cl lt) :
    Call Try.prog 104 #[s, .int .i64 a, .int .i64 m, .int .i64 b, cl] w fun _ W => ∃ z, Own W base 9 s (strsV (p ++ z ++ q)) ∧ Mod s.ownBlock w W ∧ Asc lt z ∧ Stab lt (u ++ [y]) z := by
  apply vc104
  unfold V104
  refine does_of (subN (by omega) (by omega) w) (does_eqI ?_)
  have e1 : decide (((m - a : Nat) : Int) = 1) = false := by rw [decide_eq_false_iff_not]; omega
  rw [e1, condP_false]
  refine does_of (subN (by omega) (by omega) w) (does_eqI ?_)
  have e2 : decide (((b - m : Nat) : Int) = 1) = true := by rw [decide_eq_true_eq]; omega
  rw [e2, condP_true]
  refine rounds2 (σ := Nat × Nat) (fun t => .int .i64 ((a + t.1 : Nat) : Int)) (fun t => .int .i64 ((a + t.2 : Nat) : Int)) (fun t W => t.1 ≤ t.2 ∧ t.2 ≤ u.length ∧ Ext w W ∧ (∀ k z, k < t.1 → u[k]? = some z → lt y z = false) ∧ (∀ k z, t.2 ≤ k → u[k]? = some z → lt y z = true))
    (fun t _ => t.2 - t.1) (0, u.length) rfl (by simp only; congr 1; omega) ⟨Nat.zero_le _, Nat.le_refl _, Ext.refl _, by omega, fun k y hk hy => by have := lt_of_get hy; simp only at hk; omega⟩ ?_
  rintro next ⟨i, j⟩ W ⟨hij, hjl, hE, hlo, hhi⟩ hnext _
  simp only at hij hjl hE hlo hhi ⊢
  refine does_lt (condP_of (fun hlt => ?_) fun hge => ?_)
  · have hlt' : i < j := by simp only [decide_eq_true_eq, Int.ofNat_lt] at hlt; omega
    refine does_mid (by omega) ?_
    have hh : (a + i + (a + j)) / 2 = a + (i + j) / 2 := by omega
    rw [hh]
    have hc1 : (i + j) / 2 < u.length := by omega
    obtain ⟨x, hx⟩ := get_some hc1
    refine q104_17 (Ext W) (Ext.drawn W) fun _ => ?_
    obtain ⟨c, hclt, hcall⟩ := hc W (Mod.ofExt hE) y x
    refine q_text (ho.ext hE).row (get_right (t := 0) (v := [y]) rfl (by omega)) (q_text (ho.ext hE).row (x := x) (i := a + (i + j) / 2) ?_ (hcall (q_run (run_lt (a := c) (b := 0)) (q_run run_not fun W2 hE2 _ => ?_))))
    · have := get_left (p := p) (u := u) (t := (i + j) / 2) (r := [y] ++ q) (k := a + (i + j) / 2) hx (by omega)
      simpa using this
    rw [hclt]
    refine condP_of (fun ht => ?_) fun hf => ?_
    · simp only [Bool.not_eq_true'] at ht
      refine does_of (add1 (by omega) W2) (hnext ((i + j) / 2 + 1, j) _ _ W2 rfl rfl ⟨by simp only; omega, hjl, hE.trans hE2, fun k z hk hz => ?_, hhi⟩ (by simp only; omega))
      exact O.ntrans ht (asc_get hu (O := O) (i := k) (j := (i + j) / 2) (by simp only at hk; omega) hz hx)
    · simp only [Bool.not_eq_false'] at hf
      refine hnext (i, (i + j) / 2) _ _ W2 rfl rfl ⟨by simp only; omega, by simp only; omega, hE.trans hE2, hlo, fun k z hk hz => ?_⟩ (by simp only; omega)
      exact O.lt_of_lt hf (asc_get hu (O := O) (i := (i + j) / 2) (j := k) hk hx hz)
  · have hij2 : i = j := by simp only [decide_eq_false_iff_not, Int.ofNat_lt] at hge; omega
    subst hij2
    have hv1 : ∀ z ∈ u.take i, lt y z = false := fun z hz => by obtain ⟨t, h1, h2⟩ := mem_take_get hz; exact hlo t z h1 h2
    have hv2 : ∀ z ∈ u.drop i, lt y z = true := fun z hz => by obtain ⟨t, h1, h2⟩ := mem_drop_get hz; exact hhi t z h1 h2
    have hvv := List.take_append_drop i u
    have htl : (u.take i).length = i := by rw [List.length_take]; omega
    have hdl : (u.drop i).length = u.length - i := List.length_drop
    refine rounds1 (σ := ShSt) (fun t => .int .i64 ((a + i + t.a.length : Nat) : Int)) (fun t W => Own W base 9 s (strsV (p ++ u.take i ++ t.a ++ y :: (t.b ++ q))) ∧ Mod s.ownBlock w W ∧ u.drop i = t.a ++ t.b) (fun t _ => t.a.length) ⟨u.drop i, []⟩ (by simp only; congr 1; omega) ⟨?_, Mod.ofExt hE, by simp⟩ ?_
    · have : p ++ u.take i ++ u.drop i ++ y :: ([] ++ q) = p ++ u ++ [y] ++ q := by
        rw [List.append_assoc p, hvv]; simp
      simp only
      rw [this]
      exact ho.ext hE
    rintro next2 ⟨za, zb⟩ W2 ⟨ho2, hM2, hz⟩ hnext2 _
    simp only at ho2 hM2 hz ⊢
    have hzl : za.length + zb.length = u.length - i := by rw [← hdl, hz]; simp
    refine does_gt (condP_of (fun hlt2 => ?_) fun hge2 => ?_)
    · have hlt3 : 0 < za.length := by simp only [decide_eq_true_eq, Int.ofNat_lt] at hlt2; omega
      rcases List.eq_nil_or_concat za with h0 | ⟨za', x, h0⟩
      · subst h0; simp at hlt3
      · rw [List.concat_eq_append] at h0
        subst h0
        have hsw := swap_two (xs := p ++ u.take i ++ (za' ++ [x]) ++ y :: (zb ++ q)) (A := p ++ u.take i ++ za') (x := x) (B := []) (y := y) (C := zb ++ q) (i := a + i + (za' ++ [x]).length - 1) (j := a + i + (za' ++ [x]).length) (by simp) (by simp [htl] <;> omega) (by simp [htl] <;> omega)
        have hj1 : 1 ≤ a + i + (za' ++ [x]).length := by simp; omega
        refine sw104b ho2 hj1 hsw.2.1 hsw.1 fun W3 ho3 hM3 _ => ?_
        rw [List.set_comm _ _ (by omega), hsw.2.2] at ho3
        refine does_of (sub1 hj1 (by simp at hzl ⊢; omega) W3) (hnext2 ⟨za', x :: zb⟩ _ W3 (by simp only; congr 1; simp <;> omega) ⟨by simpa using ho3, hM2.trans hM3, by simpa using hz⟩ (by simp))
    · have hza : za = [] := by
        simp only [decide_eq_false_iff_not, Int.ofNat_lt] at hge2
        exact List.eq_nil_of_length_eq_zero (by omega)
      subst hza
      rw [List.nil_append] at hz
      subst hz
      refine ⟨u.take i ++ y :: u.drop i, by simpa using ho2, hM2, asc_ins (O := O) (hvv.symm ▸ hu) hv2 hv1, ?_⟩
      have := stab_ins (O := O) (x := y) (z1 := u.take i) (z2 := u.drop i) hv2
      rw [hvv] at this
      exact this
end
end Go.Proofs.Ytcncgkkilgmphaa
