/-
  Contracts of the stable sort of texts by a function value: the merge in place, whole; the sort.
-/
import Derived.Test.YtcncgkkilgmphaaSr
set_option linter.unusedVariables false
set_option linter.unusedSimpArgs false
namespace Go.Proofs.Ytcncgkkilgmphaa
open Go Go.RowKit

section
variable {lt : ByteArray → ByteArray → Bool}
def LowOk (lt : ByteArray → ByteArray → Bool) (u v : List ByteArray) (a m n s0 i : Nat) : Prop := i = s0 ∨ ∃ x y, u[i - 1 - a]? = some x ∧ v[n - i - m]? = some y ∧ lt y x = false ∧ a + 1 ≤ i ∧ m + i ≤ n
def HighOk (lt : ByteArray → ByteArray → Bool) (u v : List ByteArray) (a m n r0 i : Nat) : Prop := i = r0 ∨ ∃ x y, u[i - a]? = some x ∧ v[n - 1 - i - m]? = some y ∧ lt y x = true ∧ a ≤ i ∧ m + i + 1 ≤ n
theorem join0' {X : VF 0 → Prop} {J : VF 0} (A : World → Prop) (hX : ∀ j : VF 0, (∀ w, A w → j w) → X j) (hJ : ∀ w, A w → J w) : JoinP 0 X J := hX J hJ
theorem symMerge_spec (O : WO lt) : ∀ (n : Nat) {w : World} {base a m b : Nat} {s cl : Value} {p u v q : List ByteArray}, u.length + v.length ≤ n → Own w base 9 s (strsV (p ++ u ++ v ++ q)) → a = p.length → m = p.length + u.length → b = p.length + u.length + v.length →
    p.length + u.length + v.length + q.length ≤ 1099511627776 → u ≠ [] → v ≠ [] → Asc lt u → Asc lt v → CmpOk w s.ownBlock cl lt →
    Call Try.prog 104 #[s, .int .i64 a, .int .i64 m, .int .i64 b, cl] w fun _ W => ∃ z, Own W base 9 s (strsV (p ++ z ++ q)) ∧ Mod s.ownBlock w W ∧ Asc lt z ∧ Stab lt (u ++ v) z := by
  intro n
  induction n with
  | zero =>
    intro w base a m b s cl p u v q hn ho ha hm hb hlen hu hv
    exfalso
    exact hu (List.eq_nil_of_length_eq_zero (by omega))
  | succ n ih =>
    intro w base a m b s cl p u v q hn ho ha hm hb hlen hu hv au av hc
    have hup : 0 < u.length := List.length_pos_iff.2 hu
    have hvp : 0 < v.length := List.length_pos_iff.2 hv
    by_cases h1 : u.length = 1
    · obtain ⟨x, rfl⟩ := List.length_eq_one_iff.1 h1
      exact symMerge_one O ho ha (by simpa using hm) (by simpa using hb) (by simpa using hlen) av hc
    by_cases h2 : v.length = 1
    · obtain ⟨y, rfl⟩ := List.length_eq_one_iff.1 h2
      exact symMerge_last O ho ha hm (by simpa using hb) (by simpa using hlen) h1 au hc
    apply vc104
    unfold V104
    refine does_of (subN (by omega) (by omega) w) (does_eqI ?_)
    have e1 : decide (((m - a : Nat) : Int) = 1) = false := by rw [decide_eq_false_iff_not]; omega
    rw [e1, condP_false]
    refine does_of (subN (by omega) (by omega) w) (does_eqI ?_)
    have e2 : decide (((b - m : Nat) : Int) = 1) = false := by rw [decide_eq_false_iff_not]; omega
    rw [e2, condP_false]
    refine does_mid (by omega) ?_
    generalize hmid : (a + b) / 2 = mid
    refine does_of (addN (by omega) w) ?_
    -- where the search begins
    have start : ∃ s0 r0, (m ≤ mid ∧ s0 = a ∧ r0 = m ∨ mid < m ∧ s0 = mid + m - b ∧ r0 = mid) := by
      by_cases h : m ≤ mid
      · exact ⟨a, m, .inl ⟨h, rfl, rfl⟩⟩
      · exact ⟨mid + m - b, mid, .inr ⟨by omega, rfl, rfl⟩⟩
    obtain ⟨s0, r0, hs0⟩ := start
    refine join2 (fun x y W => x = .int .i64 (s0 : Nat) ∧ y = .int .i64 (r0 : Nat) ∧ W = w) ?_ ?_
    rotate_left
    · intro j hj
      refine does_gt (condP_of (fun hgt => ?_) fun hle => ?_)
      · have hgt' : mid < m := by simp only [decide_eq_true_eq, Int.ofNat_lt] at hgt; exact hgt
        rcases hs0 with ⟨h, _⟩ | ⟨_, h3, h4⟩
        · omega
        · refine does_of (subN (by omega) (by omega) w) (hj _ _ _ ⟨?_, ?_, rfl⟩)
          · rw [h3]
          · rw [h4]
      · have hle' : m ≤ mid := by simp only [decide_eq_false_iff_not, Int.ofNat_lt] at hle; omega
        rcases hs0 with ⟨_, h3, h4⟩ | ⟨h, _⟩
        · exact hj _ _ _ ⟨by rw [h3], by rw [h4], rfl⟩
        · omega
    rintro _ _ W0 ⟨rfl, rfl, hW0⟩ _
    rw [hW0]
    refine does_of (sub1 (by omega) (by omega) w) ?_
    have hrange : a ≤ s0 ∧ s0 ≤ r0 ∧ r0 ≤ m ∧ r0 ≤ mid ∧ m ≤ mid + m - r0 ∧ mid + m - s0 ≤ b := by
      rcases hs0 with ⟨h, h3, h4⟩ | ⟨h, h3, h4⟩ <;> omega
    refine rounds2 (σ := Nat × Nat) (fun t => .int .i64 (t.1 : Nat)) (fun t => .int .i64 (t.2 : Nat)) (fun t W => s0 ≤ t.1 ∧ t.1 ≤ t.2 ∧ t.2 ≤ r0 ∧ Ext w W ∧ LowOk lt u v a m (mid + m) s0 t.1 ∧ HighOk lt u v a m (mid + m) r0 t.2) (fun t _ => t.2 - t.1) (s0, r0) rfl rfl
      ⟨Nat.le_refl _, hrange.2.1, Nat.le_refl _, Ext.refl _, .inl rfl, .inl rfl⟩ ?_
    rintro next ⟨i, j⟩ W ⟨hsi, hij, hjr, hE, hlo, hhi⟩ hnext _
    simp only at hsi hij hjr hE hlo hhi ⊢
    refine does_lt (condP_of (fun hlt => ?_) fun hge => ?_)
    · have hlt' : i < j := by simp only [decide_eq_true_eq, Int.ofNat_lt] at hlt; exact hlt
      refine does_mid (by omega) ?_
      generalize hcc : (i + j) / 2 = c
      have hci : i ≤ c ∧ c < j := by omega
      obtain ⟨x, hx⟩ := get_some (l := u) (t := c - a) (by omega)
      obtain ⟨y, hy⟩ := get_some (l := v) (t := mid + m - 1 - c - m) (by omega)
      refine q104_35 (Ext W) (Ext.drawn W) fun _ => ?_
      obtain ⟨cc, hclt, hcall⟩ := hc W (Mod.ofExt hE) y x
      refine q_run (fun W => subN (by omega) (by omega) W) (q_text (ho.ext hE).row (get_right hy (by omega)) (q_text (ho.ext hE).row (x := x) (i := c) ?_ (hcall (q_run (run_lt (a := cc) (b := 0)) (q_run run_not fun W2 hE2 _ => ?_)))))
      · have := get_left (p := p) (u := u) (t := c - a) (r := v ++ q) (k := c) hx (by omega)
        simpa using this
      rw [hclt]
      refine condP_of (fun ht => ?_) fun hf => ?_
      · simp only [Bool.not_eq_true'] at ht
        refine does_of (add1 (by omega) W2) (hnext (c + 1, j) _ _ W2 rfl rfl ⟨by simp only; omega, by simp only; omega, hjr, hE.trans hE2, .inr ⟨x, y, ?_, ?_, ht, by omega, by omega⟩, hhi⟩ (by simp only; omega))
        · simp only [show c + 1 - 1 - a = c - a by omega]; exact hx
        · simp only [show mid + m - (c + 1) - m = mid + m - 1 - c - m by omega]; exact hy
      · simp only [Bool.not_eq_false'] at hf
        exact hnext (i, c) _ _ W2 rfl rfl ⟨hsi, by simp only; omega, by simp only; omega, hE.trans hE2, hlo, .inr ⟨x, y, hx, hy, hf, by simp only; omega, by simp only; omega⟩⟩ (by simp only; omega)
    · have hij2 : i = j := by simp only [decide_eq_false_iff_not, Int.ofNat_lt] at hge; omega
      subst hij2
      refine does_of (subN (by omega) (by omega) W) ?_
      generalize hend : mid + m - i = e
      -- the four parts
      generalize hu1 : u.take (i - a) = u1
      generalize hu2 : u.drop (i - a) = u2
      generalize hv1 : v.take (e - m) = v1
      generalize hv2 : v.drop (e - m) = v2
      have huu : u1 ++ u2 = u := by rw [← hu1, ← hu2, List.take_append_drop]
      have hvv : v1 ++ v2 = v := by rw [← hv1, ← hv2, List.take_append_drop]
      have lu1 : u1.length = i - a := by rw [← hu1, List.length_take]; omega
      have lu2 : u2.length = m - i := by rw [← hu2, List.length_drop]; omega
      have lv1 : v1.length = mid - i := by rw [← hv1, List.length_take]; omega
      have lv2 : v2.length = b - e := by rw [← hv2, List.length_drop]; omega
      have c1 : ∀ x ∈ v1, ∀ y ∈ u2, lt x y = true := by
        intro x hx y hy
        rcases hhi with h | ⟨X, Y, hX, hY, hYX, h5, h6⟩
        · exfalso
          rcases hs0 with ⟨g1, g2, g3⟩ | ⟨g1, g2, g3⟩
          · have : u2 = [] := List.eq_nil_of_length_eq_zero (by omega)
            rw [this] at hy; cases hy
          · have : v1 = [] := List.eq_nil_of_length_eq_zero (by omega)
            rw [this] at hx; cases hx
        · rw [← hv1] at hx
          rw [← hu2] at hy
          obtain ⟨t, ht, hxt⟩ := mem_take_get hx
          obtain ⟨t', ht', hyt⟩ := mem_drop_get hy
          have k1 := asc_get av (O := O) (i := t) (j := mid + m - 1 - i - m) (by omega) hxt hY
          have k2 := asc_get au (O := O) (i := i - a) (j := t') (by omega) hX hyt
          exact O.lt_of_le k1 (O.lt_of_lt hYX k2)
      have c2 : ∀ x ∈ u1, ∀ y ∈ v2, lt y x = false := by
        intro x hx y hy
        rcases hlo with h | ⟨X, Y, hX, hY, hYX, h5, h6⟩
        · exfalso
          rcases hs0 with ⟨g1, g2, g3⟩ | ⟨g1, g2, g3⟩
          · have : u1 = [] := List.eq_nil_of_length_eq_zero (by omega)
            rw [this] at hx; cases hx
          · have : v2 = [] := List.eq_nil_of_length_eq_zero (by omega)
            rw [this] at hy; cases hy
        · rw [← hv2] at hy
          rw [← hu1] at hx
          obtain ⟨t, ht, hxt⟩ := mem_take_get hx
          obtain ⟨t', ht', hyt⟩ := mem_drop_get hy
          have k1 := asc_get au (O := O) (i := t) (j := i - 1 - a) (by omega) hxt hX
          have k2 := asc_get av (O := O) (i := mid + m - i - m) (j := t') (by omega) hY hyt
          exact O.ntrans k2 (O.ntrans hYX k1)
      have au' : Asc lt (u1 ++ u2) := huu.symm ▸ au
      have av' : Asc lt (v1 ++ v2) := hvv.symm ▸ av
      obtain ⟨au1, au2, _⟩ := asc_append.1 au'
      obtain ⟨av1, av2, _⟩ := asc_append.1 av'
      have hoW : Own W base 9 s (strsV (p ++ u1 ++ u2 ++ v1 ++ (v2 ++ q))) := by
        have : p ++ u1 ++ u2 ++ v1 ++ (v2 ++ q) = p ++ u ++ v ++ q := by rw [← huu, ← hvv]; simp
        rw [this]
        exact ho.ext hE
      -- turned
      refine join0' (fun W2 => Own W2 base 9 s (strsV (p ++ u1 ++ v1 ++ u2 ++ v2 ++ q)) ∧ Mod s.ownBlock w W2) ?_ ?_
      · intro j hj
        refine does_lt (and_join (decide ((m : Int) < (e : Int))) (fun _ j hj => does_lt hj) ?_)
        refine condP_of (fun ht => ?_) fun hf => ?_
        · have ht' : i < m ∧ m < e := by simpa using ht
          have hne1 : u2 ≠ [] := fun h => by rw [h] at lu2; simp at lu2; omega
          have hne2 : v1 ≠ [] := fun h => by rw [h] at lv1; simp at lv1; omega
          have hoW' : Own W base 9 s (strsV ((p ++ u1) ++ u2 ++ v1 ++ (v2 ++ q))) := hoW
          refine (rotate_spec (a := i) (m := m) (b := e) (cl := cl) hoW' (by simp; omega) (by simp; omega) (by simp; omega) hne1 hne2).mono fun _ W2 ⟨h1, h2⟩ => hj W2 ⟨by simpa using h1, (Mod.ofExt hE).trans h2⟩
        · have hf' : ¬ (i < m ∧ m < e) := by simpa using hf
          refine hj W ⟨?_, Mod.ofExt hE⟩
          have : u2 = [] ∨ v1 = [] := by
            by_cases h : i < m
            · right; exact List.eq_nil_of_length_eq_zero (by omega)
            · left; exact List.eq_nil_of_length_eq_zero (by omega)
          rcases this with h | h
          · rw [h] at hoW ⊢; simpa using hoW
          · rw [h] at hoW ⊢; simpa using hoW
      rintro W2 ⟨ho2, hM2⟩ _
      refine join0' (fun W3 => ∃ z1, Own W3 base 9 s (strsV (p ++ z1 ++ u2 ++ v2 ++ q)) ∧ Mod s.ownBlock w W3 ∧ Asc lt z1 ∧ Stab lt (u1 ++ v1) z1) ?_ ?_
      · intro j hj
        refine does_lt (and_join (decide ((i : Int) < (mid : Int))) (fun _ j hj => does_lt hj) ?_)
        refine condP_of (fun ht => ?_) fun hf => ?_
        · have ht' : a < i ∧ i < mid := by simpa using ht
          have hne1 : u1 ≠ [] := fun h => by rw [h] at lu1; simp at lu1; omega
          have hne2 : v1 ≠ [] := fun h => by rw [h] at lv1; simp at lv1; omega
          have ho2' : Own W2 base 9 s (strsV (p ++ u1 ++ v1 ++ (u2 ++ v2 ++ q))) := by simpa using ho2
          refine (ih (a := a) (m := i) (b := mid) (by omega) ho2' ha (by omega) (by omega) (by simp; omega) hne1 hne2 au1 av1 (hc.mod hM2)).mono fun _ W3 ⟨z, h1, h2, h3, h4⟩ => hj W3 ⟨z, by simpa using h1, hM2.trans h2, h3, h4⟩
        · have hf' : ¬ (a < i ∧ i < mid) := by simpa using hf
          have : u1 = [] ∨ v1 = [] := by
            by_cases h : a < i
            · right; exact List.eq_nil_of_length_eq_zero (by omega)
            · left; exact List.eq_nil_of_length_eq_zero (by omega)
          refine hj W2 ⟨u1 ++ v1, by simpa using ho2, hM2, ?_, Stab.refl _⟩
          rcases this with h | h
          · rw [h]; exact av1
          · rw [h, List.append_nil]; exact au1
      rintro W3 ⟨z1, ho3, hM3, hz1, hs1⟩ _
      have lz1 : z1.length = u1.length + v1.length := by rw [← hs1.1.length_eq, List.length_append]
      refine does_lt (and_join (decide ((e : Int) < (b : Int))) (fun _ j hj => does_lt hj) ?_)
      refine condP_of (fun ht => ?_) fun hf => ?_
      · have ht' : mid < e ∧ e < b := by simpa using ht
        have hne1 : u2 ≠ [] := fun h => by rw [h] at lu2; simp at lu2; omega
        have hne2 : v2 ≠ [] := fun h => by rw [h] at lv2; simp at lv2; omega
        have ho3' : Own W3 base 9 s (strsV ((p ++ z1) ++ u2 ++ v2 ++ q)) := by simpa using ho3
        refine (ih (a := mid) (m := e) (b := b) (by omega) ho3' (by simp; omega) (by simp; omega) (by simp; omega) (by simp; omega) hne1 hne2 au2 av2 (hc.mod hM3)).mono fun _ W4 ⟨z2, h1, h2, h3, h4⟩ => ?_
        have := merge_split (O := O) au' av' c1 c2 hs1 hz1 h4 h3
        rw [huu, hvv] at this
        exact ⟨z1 ++ z2, by simpa using h1, hM3.trans h2, this.1, this.2⟩
      · have hf' : ¬ (mid < e ∧ e < b) := by simpa using hf
        have : u2 = [] ∨ v2 = [] := by
          by_cases h : mid < e
          · right; exact List.eq_nil_of_length_eq_zero (by omega)
          · left; exact List.eq_nil_of_length_eq_zero (by omega)
        have hz2 : Asc lt (u2 ++ v2) := by
          rcases this with h | h
          · rw [h]; exact av2
          · rw [h, List.append_nil]; exact au2
        have := merge_split (O := O) au' av' c1 c2 hs1 hz1 (Stab.refl (u2 ++ v2)) hz2
        rw [huu, hvv] at this
        exact ⟨z1 ++ (u2 ++ v2), by simpa using ho3, hM3, this.1, this.2⟩
/-! ### the sort -/
def Blk (lt : ByteArray → ByteArray → Bool) (bs : Nat) (l : List ByteArray) : Prop := ∀ k, Asc lt ((l.drop (k * bs)).take bs)
theorem asc_nil : Asc lt [] := List.Pairwise.nil
theorem blk_snoc {bs c : Nat} {d z : List ByteArray} (hd : d.length = c * bs) (hb : Blk lt bs d) (hz : Asc lt z) (hl : z.length ≤ bs) : Blk lt bs (d ++ z) := by
  intro k
  rcases Nat.lt_trichotomy k c with h | h | h
  · have h1 : (k + 1) * bs ≤ c * bs := Nat.mul_le_mul_right bs h
    rw [Nat.succ_mul] at h1
    have : ((d ++ z).drop (k * bs)).take bs = (d.drop (k * bs)).take bs := by
      rw [List.drop_append_of_le_length (by omega), List.take_append_of_le_length (by rw [List.length_drop]; omega)]
    rw [this]
    exact hb k
  · subst h
    rw [← hd, List.drop_left, List.take_of_length_le hl]
    exact hz
  · have h1 : (c + 1) * bs ≤ k * bs := Nat.mul_le_mul_right bs h
    rw [Nat.succ_mul] at h1
    rw [List.drop_eq_nil_of_le (by rw [List.length_append]; omega), List.take_nil]
    exact asc_nil
structure StSt where
  c : Nat
  d : List ByteArray
  r : List ByteArray
structure StBs where
  bs : Nat
  l : List ByteArray
theorem stable_spec (O : WO lt) {w : World} {base : Nat} {s cl : Value} {xs : List ByteArray} (ho : Own w base 9 s (strsV xs)) (hlen : xs.length ≤ 1099511627776) (hc : CmpOk w s.ownBlock cl lt) :
    Call Try.prog 81 #[s, .int .i64 (xs.length : Nat), cl] w fun _ W => ∃ z, Own W base 9 s (strsV z) ∧ Mod s.ownBlock w W ∧ Asc lt z ∧ Stab lt xs z := by
  apply vc81
  unfold V81
  refine rounds2 (σ := StSt) (fun t => .int .i64 ((t.c * 20 : Nat) : Int)) (fun t => .int .i64 ((t.c * 20 + 20 : Nat) : Int)) (fun t W => Own W base 9 s (strsV (t.d ++ t.r)) ∧ Mod s.ownBlock w W ∧ t.d.length = t.c * 20 ∧ t.d.length + t.r.length = xs.length ∧ Blk lt 20 t.d ∧ Stab lt xs (t.d ++ t.r))
    (fun t _ => t.r.length) ⟨0, [], xs⟩ rfl rfl ⟨ho, Mod.refl _ _, rfl, by simp, fun k => by simp; exact asc_nil, Stab.refl _⟩ ?_
  rintro next ⟨c, d, r⟩ W ⟨hoW, hM, hdl, hdr, hblk, hst⟩ hnext _
  simp only at hoW hM hdl hdr hblk hst ⊢
  refine does_le (condP_of (fun hle => ?_) fun hgt => ?_)
  · have hle' : c * 20 + 20 ≤ xs.length := by simp only [decide_eq_true_eq, Int.ofNat_le] at hle; exact hle
    have htd := List.take_append_drop 20 r
    have h20 : (r.take 20).length = 20 := by rw [List.length_take]; omega
    have hd2 : (r.drop 20).length = r.length - 20 := List.length_drop
    have ho1 : Own W base 9 s (strsV (d ++ r.take 20 ++ r.drop 20)) := by rw [List.append_assoc, htd]; exact hoW
    refine (insertion_spec (O := O) (cl := cl) (a := c * 20) (b := c * 20 + 20) ho1 hdl.symm (by omega) (by omega) (hc.mod hM)).mono fun _ W2 ⟨z, h1, h2, h3, h4⟩ => ?_
    have hzl : z.length = 20 := by rw [← h4.1.length_eq, h20]
    refine does_of (addN (i := c * 20 + 20) (j := 20) (by omega) W2) (hnext ⟨c + 1, d ++ z, r.drop 20⟩ _ _ W2 (by simp only; congr 1; omega) (by simp only; congr 1; omega) ⟨h1, hM.trans h2, by simp only [List.length_append]; omega, by simp only [List.length_append]; omega, blk_snoc hdl hblk h3 (by omega), hst.trans ?_⟩ (by simp only; omega))
    have := ((Stab.refl (lt := lt) d).append h4).append (Stab.refl (r.drop 20))
    rw [List.append_assoc d (r.take 20), htd] at this
    exact this
  · have hgt' : xs.length < c * 20 + 20 := by simp only [decide_eq_false_iff_not, Int.ofNat_le] at hgt; omega
    have ho1 : Own W base 9 s (strsV (d ++ r ++ [])) := by simpa using hoW
    refine (insertion_spec (O := O) (cl := cl) (a := c * 20) (b := xs.length) ho1 hdl.symm (by omega) (by simp; omega) (hc.mod hM)).mono fun _ W2 ⟨z, h1, h2, h3, h4⟩ => ?_
    rw [List.append_nil] at h1
    have hzl : z.length = r.length := h4.1.length_eq.symm
    have hb2 : Blk lt 20 (d ++ z) := blk_snoc hdl hblk h3 (by omega)
    have hst2 : Stab lt xs (d ++ z) := hst.trans ((Stab.refl d).append h4)
    refine rounds1 (σ := StBs) (fun t => .int .i64 (t.bs : Nat)) (fun t W => Own W base 9 s (strsV t.l) ∧ Mod s.ownBlock w W ∧ 20 ≤ t.bs ∧ t.bs ≤ 2199023255552 ∧ Blk lt t.bs t.l ∧ Stab lt xs t.l) (fun t _ => xs.length - t.bs) ⟨20, d ++ z⟩ rfl
      ⟨h1, hM.trans h2, Nat.le_refl _, by simp only; omega, hb2, hst2⟩ ?_
    rintro next2 ⟨bs, l⟩ W3 ⟨ho3, hM3, hbs, hbs2, hbl, hst3⟩ hnext2 _
    simp only at ho3 hM3 hbs hbs2 hbl hst3 ⊢
    have hll : l.length = xs.length := hst3.1.length_eq.symm
    refine does_lt (condP_of (fun hlt => ?_) fun hge => ?_)
    · have hlt' : bs < xs.length := by simp only [decide_eq_true_eq, Int.ofNat_lt] at hlt; exact hlt
      have hmul : ∀ W : World, (binOp .mul 3 (.int .i64 2) (.int .i64 (bs : Int))).run Try.prog W = .ok (.int .i64 ((2 * bs : Nat) : Int)) W := fun W => by
        rw [binOp_mul]
        simp only [Op.intArith, Sem.run_pure]
        rw [wrap_i64 (by omega) (by omega), show (2 * (bs : Int)) = ((2 * bs : Nat) : Int) by omega]
      have hmul2 : ∀ W : World, (binOp .mul 3 (.int .i64 (bs : Int)) (.int .i64 2)).run Try.prog W = .ok (.int .i64 ((2 * bs : Nat) : Int)) W := fun W => by
        rw [binOp_mul]
        simp only [Op.intArith, Sem.run_pure]
        rw [wrap_i64 (by omega) (by omega), show ((bs : Int) * 2) = ((2 * bs : Nat) : Int) by omega]
      refine does_of (hmul W3) ?_
      refine rounds2 (σ := StSt) (fun t => .int .i64 ((t.c * (2 * bs) : Nat) : Int)) (fun t => .int .i64 ((t.c * (2 * bs) + 2 * bs : Nat) : Int)) (fun t W => Own W base 9 s (strsV (t.d ++ t.r)) ∧ Mod s.ownBlock w W ∧ t.d.length = t.c * (2 * bs) ∧ t.d.length + t.r.length = xs.length ∧ Blk lt (2 * bs) t.d ∧
          Stab lt xs (t.d ++ t.r) ∧ t.r = l.drop (t.c * (2 * bs)))
        (fun t _ => t.r.length) ⟨0, [], l⟩ (by simp) (by simp) ⟨by simpa using ho3, hM3, by simp, by simp; omega, fun k => by simp; exact asc_nil, by simpa using hst3, by simp⟩ ?_
      rintro next3 ⟨c, d, r⟩ W4 ⟨ho4, hM4, hdl4, hdr4, hbl4, hst4, hr4⟩ hnext3 _
      simp only at ho4 hM4 hdl4 hdr4 hbl4 hst4 hr4 ⊢
      have hk1 : c * (2 * bs) = 2 * c * bs := by rw [Nat.mul_comm 2 c, Nat.mul_assoc]
      have au : Asc lt (r.take bs) := by
        have := hbl (2 * c)
        rw [← hk1, ← hr4] at this
        exact this
      have av : Asc lt ((r.drop bs).take bs) := by
        have := hbl (2 * c + 1)
        rw [Nat.succ_mul, ← hk1, ← List.drop_drop, ← hr4] at this
        exact this
      refine does_le (condP_of (fun hle => ?_) fun hgt2 => ?_)
      · have hle' : c * (2 * bs) + 2 * bs ≤ xs.length := by simp only [decide_eq_true_eq, Int.ofNat_le] at hle; exact hle
        have h5 := List.take_append_drop bs r
        have hsc : (c + 1) * (2 * bs) = c * (2 * bs) + 2 * bs := Nat.succ_mul _ _
        have h6 := List.take_append_drop bs (r.drop bs)
        have l1 : (r.take bs).length = bs := by rw [List.length_take]; omega
        have l2 : (r.drop bs).length = r.length - bs := List.length_drop
        have l3 : ((r.drop bs).take bs).length = bs := by rw [List.length_take]; omega
        have l4 : ((r.drop bs).drop bs).length = r.length - bs - bs := by rw [List.length_drop, l2]
        have ho5 : Own W4 base 9 s (strsV (d ++ r.take bs ++ (r.drop bs).take bs ++ (r.drop bs).drop bs)) := by
          rw [List.append_assoc (d ++ r.take bs), h6, List.append_assoc d, h5]; exact ho4
        refine does_of (addN (by omega) W4) ?_
        refine (symMerge_spec O _ (a := c * (2 * bs)) (m := c * (2 * bs) + bs) (b := c * (2 * bs) + 2 * bs) (Nat.le_refl _) ho5 hdl4.symm (by omega) (by omega) (by omega) (fun h => by rw [h] at l1; simp at l1; omega) (fun h => by rw [h] at l3; simp at l3; omega) au av (hc.mod hM4)).mono fun _ W5 ⟨z5, g1, g2, g3, g4⟩ => ?_
        have hz5 : z5.length = 2 * bs := by rw [← g4.1.length_eq, List.length_append, l1, l3]; omega
        refine does_of (hmul W5) (does_of (addN (by omega) W5) (hnext3 ⟨c + 1, d ++ z5, (r.drop bs).drop bs⟩ _ _ W5 (by simp only; rw [hsc]) (by simp only; rw [hsc]) ⟨g1, hM4.trans g2, ?_, ?_, blk_snoc hdl4 hbl4 g3 (by omega), hst4.trans ?_, ?_⟩ (by simp only; omega)))
        · simp only [List.length_append]; rw [hsc]; omega
        · simp only [List.length_append]; omega
        · have := ((Stab.refl (lt := lt) d).append g4).append (Stab.refl ((r.drop bs).drop bs))
          rw [List.append_assoc d, List.append_assoc (r.take bs), h6, h5] at this
          exact this
        · simp only
          rw [hr4, List.drop_drop, List.drop_drop, hsc]
          congr 1
          omega
      · have hgt3 : xs.length < c * (2 * bs) + 2 * bs := by simp only [decide_eq_false_iff_not, Int.ofNat_le] at hgt2; omega
        have fin : ∀ (W5 : World) (z5 : List ByteArray), Own W5 base 9 s (strsV (d ++ z5)) → Mod s.ownBlock w W5 → Asc lt z5 → Stab lt r z5 → Does Try.prog (binOp .mul 3 (.int .i64 (bs : Int)) (.int .i64 2)) W5 fun t62 w => next2 t62 w := by
          intro W5 z5 g1 g2 g3 g4
          refine does_of (hmul2 W5) (hnext2 ⟨2 * bs, d ++ z5⟩ _ W5 rfl ⟨g1, g2, by simp only; omega, by simp only; omega, blk_snoc hdl4 hbl4 g3 (show z5.length ≤ 2 * bs by rw [← g4.1.length_eq]; omega), hst4.trans ((Stab.refl d).append g4)⟩ (show xs.length - 2 * bs < xs.length - bs by omega))
        refine does_of (addN (by omega) W4) (does_lt (condP_of (fun hlt5 => ?_) fun hge5 => ?_))
        · have hlt6 : c * (2 * bs) + bs < xs.length := by simp only [decide_eq_true_eq, Int.ofNat_lt] at hlt5; exact hlt5
          have h5 := List.take_append_drop bs r
          have l1 : (r.take bs).length = bs := by rw [List.length_take]; omega
          have l2 : (r.drop bs).length = r.length - bs := List.length_drop
          have h7 : (r.drop bs).take bs = r.drop bs := List.take_of_length_le (by omega)
          have ho5 : Own W4 base 9 s (strsV (d ++ r.take bs ++ r.drop bs ++ [])) := by
            rw [List.append_nil, List.append_assoc d, h5]; exact ho4
          refine (symMerge_spec O _ (a := c * (2 * bs)) (m := c * (2 * bs) + bs) (b := xs.length) (Nat.le_refl _) ho5 hdl4.symm (by omega) (by omega) (by simp; omega) (fun h => by rw [h] at l1; simp at l1; omega) (fun h => by rw [h] at l2; simp at l2; omega) au (h7 ▸ av) (hc.mod hM4)).mono fun _ W5 ⟨z5, g1, g2, g3, g4⟩ => ?_
          rw [List.append_nil] at g1
          rw [h5] at g4
          exact fin W5 z5 g1 (hM4.trans g2) g3 g4
        · have hge6 : xs.length ≤ c * (2 * bs) + bs := by simp only [decide_eq_false_iff_not, Int.ofNat_lt] at hge5; omega
          rw [List.take_of_length_le (by omega)] at au
          exact fin W4 r ho4 hM4 au (Stab.refl _)
    · have hge' : xs.length ≤ bs := by simp only [decide_eq_false_iff_not, Int.ofNat_lt] at hge; omega
      have := hbl 0
      rw [Nat.zero_mul, List.drop_zero, List.take_of_length_le (by omega)] at this
      exact ⟨l, ho3, hM3, this, hst3⟩
theorem sortStable_spec (O : WO lt) {w : World} {base : Nat} {s cl : Value} {xs : List ByteArray} (ho : Own w base 9 s (strsV xs)) (hlen : xs.length ≤ 1099511627776) (hc : CmpOk w s.ownBlock cl lt) :
    Call Try.prog 63 #[s, cl] w fun _ W => ∃ z, Own W base 9 s (strsV z) ∧ Mod s.ownBlock w W ∧ Asc lt z ∧ Stab lt xs z := by
  apply vc63
  unfold V63
  refine ho.row.len u_strs ?_
  rw [strsV_length]
  exact stable_spec O ho hlen hc
end
end Go.Proofs.Ytcncgkkilgmphaa
