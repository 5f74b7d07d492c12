/-
  Contract: obj.Decode, obj.Refs.
-/
import Derived.Test.YtcncgkkilgmphaaOn
set_option linter.unusedVariables false
set_option linter.unusedSimpArgs false
namespace Go.Proofs.Ytcncgkkilgmphaa
open Go Go.RowKit

/-- what Decode hands back -/
def DecR (w w' : World) (e : TypeId) (l : List UInt8) (r : Value) : Prop :=
  Ext w w' ∧ ((∃ o dv iv pv, May o ∧ enc o = l ∧ r = .tuple #[ObV dv iv pv o, .int .i64 0] ∧ OwnOb w w' e dv iv pv o) ∨
    ((∀ o, May o → enc o ≠ l) ∧ r = .tuple #[ObV (.slice none 0 0) (.slice none 0 0) (.slice none 0 0) ob0, .int .i64 (if l.length = 0 then 2 else 4)]))
theorem region73_3 {w1 W : World} {v : Value} {c : UInt8} {b : List UInt8} {J : VF 1} (hr : Row w1 v (bytesV (c :: b))) (hE : Ext w1 W) (hl : b.length ≤ 1048576)
    (hJ : ∀ ob dv iv pv W', At w1 W W' → W.heap.size ≤ ob → OBlk W' ob 72 dv iv pv (parse numP (c.toNat : Int) b).1 → OwnOb w1 W' 106 dv iv pv (parse numP (c.toNat : Int) b).1 → J (.pointer (some ⟨ob, 0, none⟩)) W') :
    DrawP Try.prog 33 (opsOf Try.f73 3) [0] [v] [4] J W := by
  generalize hO : (parse numP (c.toNat : Int) b).1 = o at hJ
  obtain ⟨p, hp1, hp2⟩ := run_byteAt (W := w1) (kk := .i64) (i := 0) (x := c) hr rfl
  obtain ⟨va, vc, hv, _⟩ := id hr
  have hlen : (bytesV (c :: b)).length = b.length + 1 := by simp
  refine h73_3 w1 (fun _ _ => True) (fun k t W' => k = 0 → ∃ dv iv pv, t = ObV dv iv pv o ∧ OwnOb w1 W' 106 dv iv pv o)
    (fun k t W' => ∃ ob, t = .pointer (some ⟨ob, 0, none⟩) ∧ W.heap.size ≤ ob ∧ (k = 0 → OBlk W' ob 72 (.slice none 0 0) (.slice none 0 0) (.slice none 0 0) ob0) ∧ (k = 1 → ∃ dv iv pv, OBlk W' ob 72 dv iv pv o ∧ OwnOb w1 W' 106 dv iv pv o))
    hE (fun k v W W' hE h hk => by obtain ⟨dv, iv, pv, h1, h2⟩ := h hk; exact ⟨dv, iv, pv, h1, h2.ext hE⟩)
    (fun k v W W' hE h => by obtain ⟨ob, h1, h2, h3, h4⟩ := h; exact ⟨ob, h1, h2, fun hk => (h3 hk).ext hE, fun hk => by obtain ⟨dv, iv, pv, g1, g2⟩ := h4 hk; exact ⟨dv, iv, pv, g1.ext hE, g2.ext hE⟩⟩) trivial ?_
  have hfrom : ∀ W', (Instr.sliceAt 34 v (some (.int .i64 (1 : Nat))) none none).run Try.prog W' = .ok (.slice (if vc = 1 then va else va.map (·.add 1)) ((bytesV (c :: b)).length - 1) (vc - 1)) W' := fun W' => by rw [hv]; exact run_from u_bytes sz_u8 (by simp) W'
  have hrb : Row w1 (.slice (if vc = 1 then va else va.map (·.add 1)) ((bytesV (c :: b)).length - 1) (vc - 1)) (bytesV b) := by
    rw [hv] at hr
    have := row_cut (l := 1) (h := (bytesV (c :: b)).length) hr (by simp) (Nat.le_refl _)
    rw [List.take_length] at this
    exact this
  refine qx hp1 (qc (fun W' h => hp2 W' h.1.2) (qx (run_conv53 c) (qx hfrom ⟨?_, ?_, ?_, ?_⟩)))
  · intro W1 hA _
    refine (read_spec (hrb.ext hA.2) hl).mono fun r W2 ⟨g1, dv, iv, pv, g2, g3⟩ => ⟨g1, trivial, fun _ => ⟨dv, iv, pv, ?_, ?_⟩⟩
    · rw [g2, hO]
    · rw [hO] at g3
      exact g3.back hA.2.size
  · intro W1 hA _
    exact does_of (run_alloc_o W1) ⟨ext_any _ W1, trivial, _, rfl, hA.1, fun _ => heap_alloc_new W1 _, vac (by omega)⟩
  · rintro t4 t17 W1 hA _ ⟨ob, rfl, hge, hz, _⟩ h17
    obtain ⟨dv, iv, pv, rfl, hO1⟩ := h17 rfl
    obtain ⟨W2, s1, s2, s3⟩ := run_store_o hO1.isOb (hz rfl)
    have hle : w1.heap.size ≤ ob := Nat.le_trans hE.size hge
    have hO2 := hO1.mod (hz rfl : Kp ob zObC 72 W1) (by decide) (by decide) (by decide) s3
    exact does_of s1 ⟨⟨s3.size, Mod.ext hA.2 s3 fun k hk => by cases hk; exact hle⟩, trivial, trivial, (by intros; omega), fun _ => ⟨ob, rfl, hge, (fun hk => by omega), fun _ => ⟨dv, iv, pv, s2, hO2⟩⟩, trivial⟩
  · rintro t W1 hA _ ⟨ob, rfl, hge, _, h1⟩
    obtain ⟨dv, iv, pv, g1, g2⟩ := h1 rfl
    exact hJ ob dv iv pv W1 hA hge g1 g2
theorem decode_spec {w : World} {v : Value} {l : List UInt8} (hr : Row w v (bytesV l)) (hl : l.length ≤ 1048576) : Call Try.prog 73 #[v] w fun r w' => DecR w w' 106 l r := by
  apply vc73
  unfold V73
  refine does_of (run_alloc_o w) ?_
  have hE1 := ext_any (.cells (ObC (.slice none 0 0) (.slice none 0 0) (.slice none 0 0) ob0) 72) w
  have hb1 : OBlk (w.alloc (.cells (ObC (.slice none 0 0) (.slice none 0 0) (.slice none 0 0) ob0) 72)) w.heap.size 72 (.slice none 0 0) (.slice none 0 0) (.slice none 0 0) ob0 := heap_alloc_new w _
  generalize w.alloc (.cells (ObC (.slice none 0 0) (.slice none 0 0) (.slice none 0 0) ob0) 72) = w1 at hE1 hb1
  -- an error's end
  have bad : ∀ {W : World} {e : Int}, Ext w1 W → (∀ o, May o → enc o ≠ l) → e = (if l.length = 0 then 2 else 4) → Does Try.prog (Instr.build 72 #[]) W fun t w' => Does Try.prog (Instr.storeAt 72 (.pointer (some ⟨w.heap.size, 0, none⟩)) t) w' fun _ w' => SameP Try.prog (loadRes 72 (.pointer (some ⟨w.heap.size, 0, none⟩))) w' fun r0 => DecR w w' 106 l (.tuple #[r0, .int .i64 e]) := by
    intro W e hE hno he
    obtain ⟨W2, s1, s2, s3⟩ := run_store_o (isOb0 W) (hb1.ext hE)
    refine does_of (run_new_o W) (does_of s1 (same_load_o (isOb0 W2) s2 ⟨Mod.ext (hE1.trans hE) s3 fun k hk => by cases hk; exact Nat.le_refl _, .inr ⟨hno, by rw [he]⟩⟩))
  refine (hr.ext hE1).len u_bytes (does_of (run_eqI w1) (condP_of (fun h0 => ?_) fun h0 => ?_))
  · have hl0 : l = [] := by simpa using h0
    refine bad (Ext.refl _) (fun o ho he => ?_) (by simp [hl0])
    rw [hl0] at he
    simp [enc] at he
  cases l with
  | nil => simp at h0
  | cons c b =>
    simp only [List.length_cons] at hl
    refine region73_3 (hr.ext hE1) (Ext.refl _) (by omega) fun ob dv iv pv W hA hge hb hO _ => ?_
    have hmod := parse_modest (num := numP) numP_down (kind := (c.toNat : Int)) (l := b) (by omega)
    generalize hP : (parse numP (c.toNat : Int) b).1 = o at hb hO hmod
    have hdec : ∀ o', May o' → enc o' = c :: b → o' = o := fun o' h1 h2 => by
      have := dec_enc reads_num h1 h2
      rw [← hP, this]
    refine does_of (run_load_o hO.isOb hb) ((encode_spec hO.isOb hmod).mono fun r W2 ⟨hE2, hr2⟩ => ?_)
    have hE12 : Ext w1 W2 := hA.2.trans hE2
    rcases hr2 with ⟨hmay, s, rfl, hs⟩ | ⟨hnot, rfl⟩
    · refine ex2a (ex2b (does_of (run_neI W2) ?_))
      rw [show (!decide ((0 : Int) = 0)) = false from rfl]
      refine join1 (fun t W' => W' = W2 ∧ t = .bool (!decide (enc o = c :: b))) ?_ ?_
      rotate_left
      · intro j hj
        rw [guardP_ff]
        refine (beq_spec hs.row ((hr.ext hE1).ext hE12)).mono fun u W3 ⟨g1, g2⟩ => ?_
        subst g1 g2
        exact does_of (run_not W3) (hj _ _ ⟨rfl, rfl⟩)
      rintro t W3 ⟨rfl, rfl⟩ _
      rw [pickP_false]
      refine condP_of (fun hb2 => ?_) fun hb2 => ?_
      · simp only [Bool.not_eq_true', decide_eq_false_iff_not] at hb2
        refine bad hE12 (fun o' h1 h2 => ?_) (by simp)
        have := hdec o' h1 h2
        subst this
        exact hb2 h2
      · simp only [Bool.not_eq_false', decide_eq_true_eq] at hb2
        have hO3 := hO.ext hE2
        obtain ⟨W4, s1, s2, s3⟩ := run_store_o hO3.isOb (hb1.ext hE12)
        have hO4 := hO3.mod (hb1.ext hE12 : Kp w.heap.size zObC 72 W3) (by decide) (by decide) (by decide) s3
        exact does_of (run_load_o hO3.isOb (hb.ext hE2)) (does_of s1 (same_load_o hO4.isOb s2 ⟨Mod.ext (hE1.trans hE12) s3 fun k hk => by cases hk; exact Nat.le_refl _, .inl ⟨o, dv, iv, pv, hmay, hb2, rfl, hO4.back hE1.size⟩⟩))
    · refine ex2a (ex2b (does_of (run_neI W2) ?_))
      rw [show (!decide ((1 : Int) = 0)) = true from rfl]
      refine join1 (fun _ W' => W' = W2) ?_ (fun j hj => by rw [guardP_tf]; exact hj _ _ rfl)
      rintro t W3 rfl _
      rw [pickP_true, condP_true]
      refine bad hE12 (fun o' h1 h2 => ?_) (by simp)
      have := hdec o' h1 h2
      subst this
      exact hnot h1
/-! ### what an object names -/
structure RefSt where
  v : Value
  i : Nat
theorem run_one_str (s : ByteArray) (W : World) : (Instr.buildSlice 23 1 #[(0, .string s)]).run Try.prog W = .ok (.slice (some ⟨W.heap.size, 0, none⟩) 1 1) (W.alloc (.cells #[.string s] 9)) :=
  run_buildSlice1 u_strs sz_str (z := .string noS) (fun w => by kernel_rfl) rfl rfl W
theorem own_one_str (s : ByteArray) (W : World) : Own (W.alloc (.cells #[.string s] 9)) W.heap.size 9 (.slice (some ⟨W.heap.size, 0, none⟩) 1 1) (strsV [s]) := own_single 9 (.string s) (Nat.le_refl _)
theorem Own.pushS {w0 W : World} {v x : Value} {xs ys : List ByteArray} {ty : TypeId} {k : Value → World → Prop} (ho : Own W w0.heap.size 9 v (strsV xs)) (hE : Ext w0 W) (hr : Row W x (strsV ys)) (hl : xs.length + ys.length ≤ 1099511627776)
    (hk : ∀ v' W', Own W' w0.heap.size 9 v' (strsV (xs ++ ys)) → Ext w0 W' → Mod v.ownBlock W W' → k v' W') : Does Try.prog (Builtin.append_ #[23, 23] ty #[v, x]) W k :=
  ho.append u_strs info_str rfl hr (strsV_one _) (by simp; omega) (by omega) hE.size fun v' W' h1 h2 _ => hk v' W' (by rw [strsV_append]; exact h1) (hE.grownOwn ho h2) h2
theorem refs_spec {w : World} {dv iv pv : Value} {o : Ob} (h : IsOb w dv iv pv o) (hl : (refsOf o).length ≤ 1048576) : Call Try.prog 50 #[ObV dv iv pv o] w fun r w' => Ext w w' ∧ Own w' w.heap.size 9 r (strsV (refsOf o)) := by
  apply vc50
  unfold V50
  refine box_o h fun w1 hE1 hF => hF.f0 (does_of (run_eqI w1) (condP_of (fun hk => ?_) fun hk2 => ?_))
  · have hk : o.kind = 2 := by simpa using hk
    have hre : refsOf o = o.items.map (·.id) := by simp [refsOf, hk]
    rw [hre] at hl ⊢
    simp only [List.length_map] at hl
    refine hF.f2 (hF.ob.items.len_o ?_)
    refine rounds2 (σ := RefSt) (fun s => s.v) (fun s => .int .i64 s.i) (fun s W => s.i ≤ o.items.length ∧ Ext w1 W ∧ Own W w1.heap.size 9 s.v (strsV ((o.items.take s.i).map (·.id)))) (fun s _ => o.items.length - s.i) ⟨.slice none 0 0, 0⟩ rfl rfl ⟨Nat.zero_le _, Ext.refl _, Own.nil _ _ _⟩ ?_
    rintro next ⟨va, i⟩ W ⟨hi, hE, ho⟩ hnext _
    simp only at hi ho ⊢
    refine does_lt (condP_of (fun hlt => ?_) fun hge => ?_)
    · have hlt' : i < o.items.length := by simpa using hlt
      obtain ⟨p, hp, hidx, c0, c1, c2⟩ := hF.ob.items.at_o (List.getElem?_eq_getElem hlt')
      refine does_of (hidx .i64 W) (does_of (run_loadI_o hp (hE.cell c0) (hE.cell c1) (hE.cell c2)) (local_o fun W2 hE2 hb => ?_))
      refine does_of (run_fieldI_o (p := ⟨W.heap.size, 0, none⟩) rfl W2).2.2 (does_load1 agg_str (local_cells hb).2.2 (does_of (run_one_str _ W2) ?_))
      have hE3 := (hE.trans hE2).trans (ext_any (.cells #[.string o.items[i].id] 9) W2)
      refine ((ho.ext hE2).ext (ext_any _ W2)).pushS hE3 (own_one_str _ W2).row (by simp; omega) fun v' W3 g1 g2 _ => ?_
      refine does_add (by omega) (by omega) (hnext ⟨v', i + 1⟩ _ _ W3 rfl (by simp) ⟨hlt', g2, ?_⟩ (by simp only; omega))
      simp only
      rw [List.take_succ_eq_append_getElem hlt', List.map_append]
      exact g1
    · have hie : i = o.items.length := by simp at hge; omega
      rw [hie, List.take_length] at ho
      exact ⟨hE1.trans hE, ho.mono hE1.size⟩
  have hk2 : o.kind ≠ 2 := by simpa using hk2
  refine does_of (run_eqI w1) (condP_of (fun hk => ?_) fun hk3 => ?_)
  · have hk : o.kind = 3 := by simpa using hk
    have hre : refsOf o = [o.tree] ++ o.parents := by simp [refsOf, hk]
    rw [hre] at hl ⊢
    simp only [List.length_append, List.length_cons, List.length_nil] at hl
    refine hF.f3 (does_of (run_one_str _ w1) ?_)
    have hF2 := hF.ext (ext_any (.cells #[.string o.tree] 9) w1)
    refine hF2.f4 ((own_one_str _ w1).pushS (w0 := w1) (ext_any _ w1) hF2.ob.pars (by simp only [List.length_cons, List.length_nil]; omega) fun v' W3 g1 g2 _ => ⟨hE1.trans g2, g1.mono hE1.size⟩)
  · have hk3 : o.kind ≠ 3 := by simpa using hk3
    have hre : refsOf o = [] := by simp [refsOf, hk2, hk3]
    rw [hre]
    exact ⟨hE1, Own.nil _ _ _⟩
end Go.Proofs.Ytcncgkkilgmphaa
