/-
  Contract of the document's graph: a commit added.
-/
import Derived.Test.YtcncgkkilgmphaaRg
set_option linter.unusedVariables false
set_option linter.unusedSimpArgs false
namespace Go.Proofs.Ytcncgkkilgmphaa
open Go Go.RowKit

theorem top_le {G : List Cm} {st : Int} (ps : List ByteArray) : st ≤ topOf G ps ↔ st ≤ -1 ∨ ∃ p ∈ ps, st ≤ (cmOf G p).elim 0 (·.st) := by
  unfold topOf
  have : ∀ (ps : List ByteArray) (t : Int), st ≤ ps.foldl (fun t p => max t ((cmOf G p).elim 0 (·.st))) t ↔ st ≤ t ∨ ∃ p ∈ ps, st ≤ (cmOf G p).elim 0 (·.st) := by
    intro ps
    induction ps with
    | nil => intro t; simp
    | cons p ps ih =>
      intro t
      rw [List.foldl_cons, ih]
      simp only [List.mem_cons, exists_eq_or_imp]
      have hmx : st ≤ max t ((cmOf G p).elim 0 (·.st)) ↔ st ≤ t ∨ st ≤ (cmOf G p).elim 0 (·.st) := by omega
      rw [hmx, or_assoc]
  exact this ps (-1)
/-- append to an own row: in its place, or all anew -/
theorem Own.append2 {P : Program} {w : World} {k : Value → World → Prop} {t ty e : TypeId} {z : Value} {bytes base : Nat} {v x : Value} {xs ys : List Value} (h : Own w base e v xs) (ht : P.underlying t = some (.slice e)) (hi : infoOf P e z bytes) (hz : z.cells.size = 1)
    (hr : Row w x ys) (h1 : ∀ u ∈ ys, u.oneCell' = true) (hb : (xs.length + ys.length) * bytes ≤ 140737488355328) (hb0 : 0 < bytes) (hbase : base ≤ w.heap.size)
    (hk : ∀ v' w', Own w' base e v' (xs ++ ys) → w.grownBy w' v.ownBlock → (v'.ownBlock = v.ownBlock ∨ (∀ k, v'.ownBlock = some k → w.heap.size ≤ k) ∧ Ext w w') → k v' w') : Does P (Builtin.append_ #[t, t] ty #[v, x]) w k := by
  have hext : ∀ {w' : World}, Ext w w' → w.grownBy w' v.ownBlock := fun hE => Mod.ofExt hE
  have ho := h
  obtain ⟨i0, hi0, hzz⟩ := Option.map_eq_some_iff.1 hi
  simp only [Prod.mk.injEq] at hzz
  obtain ⟨hz0, hz1, hz2⟩ := hzz
  obtain ⟨xa, c, rfl, ⟨hl1, hl2⟩, hc⟩ := id hr
  have hle : xs.length + ys.length ≤ 140737488355328 := Nat.le_trans (Nat.le_mul_of_pos_right _ hb0) hb
  rcases h.2 with ⟨rfl, h0⟩ | ⟨g, cap, cur, rfl, hbg, hg, hn, hm, hsz, htk⟩
  · have hx : xs = [] := List.eq_nil_of_length_eq_zero h0
    subst hx
    refine append_full (n := 0) ht hi hz (Row.nil w 0 none) hr (by simpa using hb) hb0 (fun hy => ?_) fun v' w' hov hE => ?_
    · exact hk _ _ (by rw [hy]; simpa using ho) (hext (Ext.refl w)) (.inl rfl)
    · have hov' : Own w' base e v' ([] ++ ys) := hov.mono hbase
      exact hk v' w' hov' (hext hE) (.inr ⟨hov.ge, hE⟩)
  · simp only [Nat.mul_one] at hn hsz htk
    by_cases hroom : xs.length + ys.length ≤ cap
    · cases xa with
      | none =>
        have hys : ys = [] := by
          cases ys with
          | nil => rfl
          | cons y ys => obtain ⟨ad, h1, _⟩ := hc 0 y rfl; cases h1
        subst hys
        have hrun : (Builtin.append_ #[t, t] ty #[.slice (some ⟨g, 0, none⟩) xs.length cap, .slice none 0 c]).run P w = .ok (.slice (some ⟨g, 0, none⟩) xs.length cap) w := by
          simp only [Builtin.append_, List.getElem?_toArray, List.getElem?_cons_zero, List.getElem?_cons_succ]
          simp [run_underlying ht, sizeOf, typeInfo, hi0, hz1, Builtin.lenOf, Builtin.firstCells, hn, storeCells]
        exact does_of hrun (hk _ _ (by simpa using ho) (hext (Ext.refl w)) (.inl rfl))
      | some ad =>
        obtain ⟨w', hrun, hown, hgr⟩ := run_append_fits (P := P) (w := w) base t ty e i0 1 ht hi0 hz1 g xs.length cap xs ho ad ys.length c ys (by simp) (fun j u hj => by obtain ⟨ad', h1, h2⟩ := hc j u hj; cases h1; exact h2) h1 hroom
        refine does_of hrun (hk _ w' ?_ hgr (.inl rfl))
        unfold Own
        rw [List.length_append]
        exact hown
    · have hpos : 0 < ys.length := by omega
      obtain ⟨ad, rfl, _⟩ := hc 0 ys[0] (by simp [hpos])
      have hnews : ∀ j u, ys[j]? = some u → w.cell? (ad.add j) = some u := fun j u hj => by obtain ⟨ad', h1, h2⟩ := hc j u hj; cases h1; exact h2
      have hge := grownCap_ge w (xs.length + ys.length) cap e
      have hcm : grownCap w (xs.length + ys.length) cap e ≤ maxLen := grownCap_le_maxLen w _ cap e (by simp only [maxLen]; omega)
      have hrun := run_append_grow (P := P) w t ty e i0 z ht hi0 hz0 ⟨g, 0, none⟩ xs.length cap xs (by rw [hz1, Nat.mul_one]) (World.ownsRow.cells ho (g := g) rfl) ad ys.length c ys (by rw [hz1, Nat.mul_one]) hnews (by omega) (by omega) (growslice_fits (by omega) (by rw [hz2]; exact hb))
      have hE := ((Ext.refl w).drew.alloc (.cells (xs.toArray ++ ys.toArray ++ Builtin.zeroCells z.cells (grownCap w (xs.length + ys.length) cap e - (xs.length + ys.length))) e))
      refine does_of hrun (hk _ _ ⟨by simp, .inr ⟨w.heap.size, _, _, by rw [List.length_append], hbase, heap_alloc_new w.drew _, by simpa using hge, hcm, ?_, ?_⟩⟩ (hext hE) (.inr ⟨fun k hk => by simp [Value.ownBlock] at hk; omega, hE⟩))
      · simp [size_zeroCells, hz]; omega
      · simp only [Nat.mul_one, Array.toList_append, List.append_assoc]
        rw [← List.append_assoc]
        exact List.take_left
section
variable (w : World) (xb : Nat) (sI sP sS pv : Value) (rows : List Value) (G : List Cm) (id : ByteArray) (ps : List ByteArray) (st : Int)
def FI (v : Value) (W : World) : Prop := Own W 0 9 v (strsV (idsOf G ++ [id])) ∧ (∀ k, v.ownBlock = some k → sI.ownBlock = some k ∨ w.heap.size ≤ k) ∧ (v.ownBlock = sI.ownBlock ∨ ∀ g o, sI.ownBlock = some g → w.heap[g]? = some o → W.heap[g]? = some o)
def FP (v : Value) (W : World) : Prop := ∃ r, Own W 0 23 v (rows ++ [r]) ∧ (∀ k, v.ownBlock = some k → sP.ownBlock = some k ∨ w.heap.size ≤ k) ∧ Own W w.heap.size 9 r (strsV (usort ps))
def FS (v : Value) (W : World) : Prop := Own W 0 3 v (stampsV G ++ [.int .i64 st]) ∧ ∀ k, v.ownBlock = some k → sS.ownBlock = some k ∨ w.heap.size ≤ k
def AC : Nat → World → Prop
  | 0, W => Ext w W
  | 1, W => ModIn (MX xb sI sP sS) w W ∧ XB W xb sI sP sS ∧ Own W 0 23 sP rows ∧ Own W 0 3 sS (stampsV G) ∧ Row W pv (strsV ps)
  | 2, W => ModIn (MX xb sI sP sS) w W ∧ XB W xb sI sP sS ∧ Own W 0 23 sP rows ∧ Own W 0 3 sS (stampsV G)
  | 3, W => ModIn (MX xb sI sP sS) w W ∧ XB W xb sI sP sS ∧ Own W 0 3 sS (stampsV G)
  | 4, W => ModIn (MX xb sI sP sS) w W ∧ XB W xb sI sP sS
  | 5, W => ModIn (MX xb sI sP sS) w W ∧ ∃ c0, XB W xb c0 sP sS ∧ FI w sI G id c0 W
  | 6, W => ModIn (MX xb sI sP sS) w W ∧ ∃ c0 c1, XB W xb c0 c1 sS ∧ FI w sI G id c0 W ∧ FP w sP rows ps c1 W
  | _, W => ModIn (MX xb sI sP sS) w W ∧ ∃ c0 c1 c2, XB W xb c0 c1 c2 ∧ FI w sI G id c0 W ∧ FP w sP rows ps c1 W ∧ FS w sS G st c2 W
variable {w xb sI sP sS pv rows G id ps st}
theorem modIn_ext {U : Nat → Prop} {a b c : World} (h : ModIn U a b) (k : Ext b c) : ModIn U a c := h.trans (ModIn.ofExt (T := U) k) fun n hn _ => hn
theorem FI.ext {v : Value} {W W' : World} (h : FI w sI G id v W) (hE : Ext W W') : FI w sI G id v W' := ⟨h.1.ext hE, h.2.1, h.2.2.imp (fun h => h) fun h g o h1 h2 => hE.block (h g o h1 h2)⟩
theorem FP.ext {v : Value} {W W' : World} (h : FP w sP rows ps v W) (hE : Ext W W') : FP w sP rows ps v W' := by
  obtain ⟨r, h1, h2, h3⟩ := h
  exact ⟨r, h1.ext hE, h2, h3.ext hE⟩
theorem FS.ext {v : Value} {W W' : World} (h : FS w sS G st v W) (hE : Ext W W') : FS w sS G st v W' := ⟨h.1.ext hE, h.2⟩
theorem FI.mod {U : Nat → Prop} {v : Value} {W W' : World} (h : FI w sI G id v W) (hm : ModIn U W W') (hd : ∀ k, sI.ownBlock = some k ∨ w.heap.size ≤ k → ¬ U k) : FI w sI G id v W' :=
  ⟨h.1.modIn hm fun k hk => hd k (h.2.1 k hk), h.2.1, h.2.2.imp (fun h => h) fun h g o h1 h2 => by
    have h3 := h g o h1 h2
    exact (hm.block g (Array.getElem?_eq_some_iff.1 h3).1 (hd g (.inl h1))).trans h3⟩
theorem FP.mod {U : Nat → Prop} {v : Value} {W W' : World} (h : FP w sP rows ps v W) (hm : ModIn U W W') (hd : ∀ k, sP.ownBlock = some k ∨ w.heap.size ≤ k → ¬ U k) : FP w sP rows ps v W' := by
  obtain ⟨r, h1, h2, h3⟩ := h
  exact ⟨r, h1.modIn hm fun k hk => hd k (h2 k hk), h2, h3.modIn hm fun k hk => hd k (.inr (h3.ge k hk))⟩
theorem FS.mod {U : Nat → Prop} {v : Value} {W W' : World} (h : FS w sS G st v W) (hm : ModIn U W W') (hd : ∀ k, sS.ownBlock = some k ∨ w.heap.size ≤ k → ¬ U k) : FS w sS G st v W' := ⟨h.1.modIn hm fun k hk => hd k (h.2 k hk), h.2⟩
theorem AC.ext {n : Nat} {W W' : World} (h : AC w xb sI sP sS pv rows G id ps st n W) (hE : Ext W W') : AC w xb sI sP sS pv rows G id ps st n W' := by
  match n, h with
  | 0, h => exact Ext.trans h hE
  | 1, ⟨h1, h2, h3, h4, h5⟩ => exact ⟨modIn_ext h1 hE, h2.ext hE, h3.ext hE, h4.ext hE, h5.ext hE⟩
  | 2, ⟨h1, h2, h3, h4⟩ => exact ⟨modIn_ext h1 hE, h2.ext hE, h3.ext hE, h4.ext hE⟩
  | 3, ⟨h1, h2, h3⟩ => exact ⟨modIn_ext h1 hE, h2.ext hE, h3.ext hE⟩
  | 4, ⟨h1, h2⟩ => exact ⟨modIn_ext h1 hE, h2.ext hE⟩
  | 5, ⟨h1, c0, h2, h3⟩ => exact ⟨modIn_ext h1 hE, c0, h2.ext hE, h3.ext hE⟩
  | 6, ⟨h1, c0, c1, h2, h3, h4⟩ => exact ⟨modIn_ext h1 hE, c0, c1, h2.ext hE, h3.ext hE, h4.ext hE⟩
  | n + 7, ⟨h1, c0, c1, c2, h2, h3, h4, h5⟩ => exact ⟨modIn_ext h1 hE, c0, c1, c2, h2.ext hE, h3.ext hE, h4.ext hE, h5.ext hE⟩
theorem AC.mod {n : Nat} {W : World} (h : AC w xb sI sP sS pv rows G id ps st n W) : ModIn (MX xb sI sP sS) w W := by
  match n, h with
  | 0, h => exact ModIn.ofExt h
  | 1, h | 2, h | 3, h | 4, h | 5, h | 6, h | n + 7, h => exact h.1
theorem AC.hasXB {n : Nat} {W : World} (hx : XB w xb sI sP sS) (hn : n ≤ 4) (h : AC w xb sI sP sS pv rows G id ps st n W) : XB W xb sI sP sS := by
  match n, h, hn with
  | 0, h, _ => exact hx.ext h
  | 1, h, _ | 2, h, _ | 3, h, _ => exact h.2.1
  | 4, h, _ => exact h.2
theorem store_slice {W : World} {xb i : Nat} {t : TypeId} {x u : Value} (hs : ∀ w, (sizeOf t).run Try.prog w = .ok 1 w) (hx : ∃ a n c, x = .slice a n c) (hc : W.cell? ⟨xb, i, none⟩ = some u) (hf : W.frozen? ⟨xb, i, none⟩ = false) :
    (Instr.storeAt t (.pointer (some ⟨xb, i, none⟩)) x).run Try.prog W = .ok () (W.setCell ⟨xb, i, none⟩ x) := by
  obtain ⟨a, n, c, rfl⟩ := hx
  exact run_store1 hs rfl rfl hc hf
theorem mod_xb (W : World) (xb i : Nat) (x : Value) : ModIn (fun k => k = xb) W (W.setCell ⟨xb, i, none⟩ x) := ModIn.ofMod (Mod.setCell W xb i x) rfl
theorem ints_one (G : List Cm) (st : Int) : ∀ u ∈ [Value.int .i64 st], u.oneCell' = true := by
  intro u hu; rw [List.mem_singleton.1 hu]; rfl
theorem slices_one {r : Value} (h : ∃ a n c, r = .slice a n c) : ∀ u ∈ [r], u.oneCell' = true := by
  intro u hu; rw [List.mem_singleton.1 hu]; obtain ⟨a, n, c, rfl⟩ := h; rfl
end
set_option maxHeartbeats 2000000 in
theorem radd_region {w0 w : World} {T : Nat → Prop} {xb : Nat} {sI sP sS pv : Value} {rows : List Value} {G : List Cm} {id : ByteArray} {ps : List ByteArray} {st : Int} {J : VF 0}
    (hc : RGc w T xb sI sP sS rows G) (hr : RowIn (fun k => ¬ T k) w pv (strsV ps)) (hl : ps.length ≤ 1099511627776) (hg : G.length ≤ 2000)
    (hJ : ∀ W, ModIn (MX xb sI sP sS) w W → (∃ c0 c1 c2, XB W xb c0 c1 c2 ∧ FI w sI G id c0 W ∧ FP w sP rows ps c1 W ∧ FS w sS G st c2 W) → J W) :
    DrawP Try.prog 89 (opsOf Try.f23 19) [0, 1, 2, 3] [.pointer (some ⟨xb, 0, none⟩), .string id, pv, .int .i64 st] [] J w := by
  have dIP := own_ne_own hc.ids hc.pss (by decide)
  have dIS := own_ne_own hc.ids hc.sts (by decide)
  have dPS := own_ne_own hc.pss hc.sts (by decide)
  have dIx := own_ne_xb hc.ids hc.xb (by decide)
  have dPx := own_ne_xb hc.pss hc.xb (by decide)
  have dSx := own_ne_xb hc.sts hc.xb (by decide)
  have hlt : ∀ {k}, MX xb sI sP sS k → k < w.heap.size := fun hk => hc.mx_lt hk
  have mono : ∀ {U : Nat → Prop} {a b : World}, ModIn U a b → (∀ k, U k → MX xb sI sP sS k) → ModIn (MX xb sI sP sS) a b := fun h hU => h.mono fun k _ hk => hU k hk
  have trans : ∀ {a b c : World}, ModIn (MX xb sI sP sS) a b → ModIn (MX xb sI sP sS) b c → ModIn (MX xb sI sP sS) a c := fun h k => ModIn.trans h k (fun n hn _ => hn)
  have hlI : (idsOf G).length = G.length := idsOf_length G
  have hlR : rows.length = G.length := hc.rows.length
  have newN : ∀ {U : Nat → Prop}, (∀ k, U k → MX xb sI sP sS k) → ∀ k, w.heap.size ≤ k → ¬ U k := fun hU k hk hu => by have := hlt (hU k hu); omega
  -- what the single steps turn
  have UI : ∀ k, sI.ownBlock = some k → MX xb sI sP sS k := fun k h => .inr (.inl h)
  have UP : ∀ k, sP.ownBlock = some k → MX xb sI sP sS k := fun k h => .inr (.inr (.inl h))
  have US : ∀ k, sS.ownBlock = some k → MX xb sI sP sS k := fun k h => .inr (.inr (.inr h))
  have UX : ∀ k, k = xb → MX xb sI sP sS k := fun k h => .inl h
  have nIP : ∀ k, sI.ownBlock = some k → ¬ sP.ownBlock = some k := fun k h1 h2 => by rcases dIP with h | h; rw [h1] at h; cases h; exact h (h1.trans h2.symm)
  have nIS : ∀ k, sI.ownBlock = some k → ¬ sS.ownBlock = some k := fun k h1 h2 => by rcases dIS with h | h; rw [h1] at h; cases h; exact h (h1.trans h2.symm)
  have nPS : ∀ k, sP.ownBlock = some k → ¬ sS.ownBlock = some k := fun k h1 h2 => by rcases dPS with h | h; rw [h1] at h; cases h; exact h (h1.trans h2.symm)
  have rowN : ∀ {U : Nat → Prop} {v : Value} {xs : List Value} {a b : World}, RowIn (fun k => w.heap.size ≤ k) a v xs → ModIn U a b → (∀ k, U k → MX xb sI sP sS k) → RowIn (fun k => w.heap.size ≤ k) b v xs := fun h hm hU => h.mod hm fun k hk => newN hU k hk
  have ownN : ∀ {U : Nat → Prop} {v : Value} {e : TypeId} {xs : List Value} {a b : World}, Own a w.heap.size e v xs → ModIn U a b → (∀ k, U k → MX xb sI sP sS k) → Own b w.heap.size e v xs := fun h hm hU => h.modIn hm fun k hk => newN hU k (h.ge k hk)
  refine p23_19 Ext (ModIn (MX xb sI sP sS)) (AC w xb sI sP sS pv rows G id ps st)
    (fun v W => v = .pointer (some ⟨xb, 0, none⟩)) (fun v W => v = .pointer (some ⟨xb, 0, none⟩)) (fun v W => v = sI) (fun v W => RowIn (fun k => w.heap.size ≤ k) W v (strsV [id])) (FI w sI G id)
    (fun v W => v = .pointer (some ⟨xb, 0, none⟩)) (fun v W => v = .pointer (some ⟨xb, 1, none⟩)) (fun v W => v = sP) (fun v W => Own W w.heap.size 9 v (strsV (usort ps)))
    (fun v W => ∃ r, RowIn (fun k => w.heap.size ≤ k) W v [r] ∧ Own W w.heap.size 9 r (strsV (usort ps))) (FP w sP rows ps)
    (fun v W => v = .pointer (some ⟨xb, 0, none⟩)) (fun v W => v = .pointer (some ⟨xb, 2, none⟩)) (fun v W => v = sS) (fun v W => RowIn (fun k => w.heap.size ≤ k) W v [.int .i64 st]) (FS w sS G st)
    (fun v W => v = .pointer (some ⟨xb, 0, none⟩)) (fun v W => v = .pointer (some ⟨xb, 0, none⟩)) (fun v W => v = .pointer (some ⟨xb, 0, none⟩)) (fun v W => v = .pointer (some ⟨xb, 1, none⟩)) (fun v W => v = .pointer (some ⟨xb, 0, none⟩)) (fun v W => v = .pointer (some ⟨xb, 2, none⟩))
    Ext.refl (fun A B h => ModIn.ofExt h) (ModIn.refl _) (fun A B D => trans) (FSt.pure _) (FSt.pure _) (FSt.pure _) (fun v A B hE h => h.ext hE) (fun v A B hE h => h.ext hE) (FSt.pure _) (FSt.pure _) (FSt.pure _) (fun v A B hE h => h.ext hE) (fun v A B hE ⟨r, h1, h2⟩ => ⟨r, h1.ext hE, h2.ext hE⟩) (fun v A B hE h => h.ext hE)
    (FSt.pure _) (FSt.pure _) (FSt.pure _) (fun v A B hE h => h.ext hE) (fun v A B hE h => h.ext hE) (FSt.pure _) (FSt.pure _) (FSt.pure _) (FSt.pure _) (FSt.pure _) (FSt.pure _) (Ext.drawn w) ?_ ?_ ?_ ?_ ?_ ?_ ?_ ?_ ?_ ?_ ?_ ?_ ?_ ?_ ?_ ?_ ?_ ?_ ?_ ?_ ?_ ?_ ?_ ?_ ?_ ?_
  · intro k _ _ W _ hC; rw [nilP_some]; exact ⟨Ext.refl _, hC, rfl⟩
  · rintro t k _ _ W _ hC rfl; exact does_of (run_fieldX xb W).1 ⟨Ext.refl _, hC, rfl⟩
  · rintro t W _ hC rfl; exact does_of (hc.ext hC).loads.1 ⟨Ext.refl _, hC, rfl⟩
  · intro W _ hC
    have hE : Ext w W := hC
    have hA : Ext W (W.alloc (.cells #[.string id] 9)) := (Ext.refl W).alloc _
    refine does_of (run_buildSlice1 u_strs sz_str zero_str rfl rfl W) ⟨hA, hE.trans hA, ?_⟩
    exact (own_single (base := w.heap.size) 9 (.string id) hE.size).rowIn fun k hk _ => hk
  · rintro t64 t66 W _ hC rfl hf8
    have hE : Ext w W := hC
    refine (hc.ids.ext hE).append2 u_strs info_str rfl hf8.row (strsV_one _) (by simp; omega) (by omega) (Nat.zero_le _) fun v' W' hown hgr hat => ?_
    have hm : ModIn (fun k => t64.ownBlock = some k) W W' := ModIn.ofModO hgr fun b hb => hb
    have hm' := mono hm UI
    refine ⟨hm', ⟨ModIn.trans (ModIn.ofExt hE) hm' (fun n hn _ => hn), (hc.xb.ext hE).modIn hm dIx, (hc.pss.ext hE).modIn hm (fun k h1 h2 => nIP k h2 h1), (hc.sts.ext hE).modIn hm (fun k h1 h2 => nIS k h2 h1), ((hr.ext hE).mod hm (fun k h1 h2 => h1 (hc.inT k (UI k h2)))).1⟩,
      ⟨by rw [strsV_append]; exact hown, fun k hk => by
        rcases hat with e | e
        · exact .inl (e ▸ hk)
        · exact .inr (Nat.le_trans hE.size (e.1 k hk)), hat.imp (fun h => h) fun h g o _ h2 => (hE.trans h.2).block h2⟩, fun v h => h, fun v h => h, fun v h => h, fun v h => rowN h hm UI, fun v h => h, fun v h => h, fun v h => h, fun v h => h, fun v h => h, fun v h => h, fun v h => rowN h hm UI, trivial⟩
  · intro k _ _ W _ hC; rw [nilP_some]; exact ⟨Ext.refl _, hC, rfl⟩
  · rintro t k _ _ W _ hC rfl; exact does_of (run_fieldX xb W).2.1 ⟨Ext.refl _, hC, rfl⟩
  · rintro t k _ hk W _ hC rfl
    exact does_of (run_load1 agg_rows (AC.hasXB hc.xb (by omega) hC).cell.2.1) ⟨Ext.refl _, hC, rfl⟩
  · intro W _ hC
    obtain ⟨h1, h2, h3, h4, h5⟩ := hC
    refine (munique_spec h5 hl).mono fun v W' ⟨ho, hE⟩ => ⟨ModIn.ofExt hE, ⟨modIn_ext h1 hE, h2.ext hE, h3.ext hE, h4.ext hE⟩, ho.mono h1.size, fun v h => h, fun v h => h, fun v h => h, fun v h => h.ext hE, fun v h => h.ext hE, fun v h => h, fun v h => h, fun v h => h, fun v h => h, fun v h => h, fun v h => h, fun v h => h.ext hE, trivial⟩
  · intro t73 W _ hC hf
    obtain ⟨a, c, hs, _⟩ := hf.row
    have hA : Ext W (W.alloc (.cells #[t73] 23)) := (Ext.refl W).alloc _
    have hsz : t73.cells = #[t73] := by subst hs; rfl
    have hone : t73.oneCell' = true := by subst hs; rfl
    refine does_of (run_buildSlice1 u_rows sz_strs zero_strs rfl hsz W) ⟨hA, AC.ext hC hA, t73, ?_, hf.ext hA⟩
    exact (own_single (base := w.heap.size) 23 t73 hC.1.size).rowIn fun k hk _ => hk
  · rintro t71 t74 W _ hC rfl ⟨r, hf1, hf2⟩
    obtain ⟨h1, h2, h3, h4⟩ := hC
    obtain ⟨ra, rc, hrs, _⟩ := hf2.row
    refine h3.append u_rows info_strs rfl hf1.row (slices_one ⟨_, _, _, hrs⟩) (by simp; omega) (by omega) (Nat.zero_le _) fun v' W' hown hgr hat => ?_
    have hm : ModIn (fun k => t71.ownBlock = some k) W W' := ModIn.ofModO hgr fun b hb => hb
    have hm' := mono hm UP
    refine ⟨hm', ⟨trans h1 hm', h2.modIn hm dPx, h4.modIn hm (fun k g1 g2 => nPS k g2 g1)⟩, ⟨r, hown, fun k hk => ?_, ownN hf2 hm UP⟩, fun v h => h, fun v h => h, fun v h => h, fun v h => rowN h hm UP, fun v h => h.mod hm ?_, fun v h => h, fun v h => h, fun v h => h, fun v h => ownN h hm UP, fun v ⟨r, g1, g2⟩ => ⟨r, rowN g1 hm UP, ownN g2 hm UP⟩, fun v h => h, fun v h => h, fun v h => h, fun v h => rowN h hm UP, trivial⟩
    · rcases hat with e | e
      · exact .inl (e ▸ hk)
      · right; rw [e] at hk; cases hk; exact h1.size
    · rintro k (g | g)
      · exact nIP k g
      · exact newN UP k g
  · intro k _ _ W _ hC; rw [nilP_some]; exact ⟨Ext.refl _, hC, rfl⟩
  · rintro t k _ _ W _ hC rfl; exact does_of (run_fieldX xb W).2.2 ⟨Ext.refl _, hC, rfl⟩
  · rintro t k _ hk W _ hC rfl
    exact does_of (run_load1 agg_ints (AC.hasXB hc.xb (by omega) hC).cell.2.2.1) ⟨Ext.refl _, hC, rfl⟩
  · intro k _ _ W _ hC
    have hA : Ext W (W.alloc (.cells #[.int .i64 st] 3)) := (Ext.refl W).alloc _
    refine does_of (run_buildSlice1 u_islice sz_int zero_int rfl rfl W) ⟨hA, AC.ext hC hA, ?_⟩
    exact (own_single (base := w.heap.size) 3 (.int .i64 st) hC.mod.size).rowIn fun k hk _ => hk
  · rintro t79 t81 W _ hC rfl hf
    obtain ⟨h1, h2, h3⟩ := hC
    refine h3.append u_islice info_int rfl hf.row (ints_one G st) (by simp; omega) (by omega) (Nat.zero_le _) fun v' W' hown hgr hat => ?_
    have hm : ModIn (fun k => t79.ownBlock = some k) W W' := ModIn.ofModO hgr fun b hb => hb
    have hm' := mono hm US
    refine ⟨hm', ⟨trans h1 hm', h2.modIn hm dSx⟩, ⟨hown, fun k hk => ?_⟩, fun v h => h, fun v h => h, fun v h => h, fun v h => rowN h hm US, fun v h => h.mod hm ?_, fun v h => h, fun v h => h, fun v h => h, fun v h => ownN h hm US, fun v ⟨r, g1, g2⟩ => ⟨r, rowN g1 hm US, ownN g2 hm US⟩, fun v h => h.mod hm ?_, fun v h => h, fun v h => h, fun v h => h, fun v h => rowN h hm US, trivial⟩
    · rcases hat with e | e
      · exact .inl (e ▸ hk)
      · right; rw [e] at hk; cases hk; exact h1.size
    · rintro k (g | g)
      · exact nIS k g
      · exact newN US k g
    · rintro k (g | g)
      · exact nPS k g
      · exact newN US k g
  · intro k _ _ W _ hC; rw [nilP_some]; exact ⟨Ext.refl _, hC, rfl⟩
  · rintro t W _ hC rfl; exact does_of (run_fieldX xb W).1 ⟨Ext.refl _, hC, rfl⟩
  · rintro t84 t67 W _ hC rfl hf
    obtain ⟨h1, h2⟩ := hC
    have hm := mod_xb W xb 0 t67
    have hm' := mono hm UX
    obtain ⟨a, c, hs⟩ := hf.1.slice
    have pI : ∀ k, sI.ownBlock = some k ∨ w.heap.size ≤ k → ¬ k = xb := fun k g e => by
      rcases g with g | g
      · exact dIx (e ▸ g)
      · exact newN UX k g e
    have pP : ∀ k, sP.ownBlock = some k ∨ w.heap.size ≤ k → ¬ k = xb := fun k g e => by
      rcases g with g | g
      · exact dPx (e ▸ g)
      · exact newN UX k g e
    have pS : ∀ k, sS.ownBlock = some k ∨ w.heap.size ≤ k → ¬ k = xb := fun k g e => by
      rcases g with g | g
      · exact dSx (e ▸ g)
      · exact newN UX k g e
    refine does_of (store_slice sz_strs ⟨_, _, _, hs⟩ h2.cell.1 (h2.cell.2.2.2 0)) ?_
    refine ⟨hm', ⟨trans h1 hm', t67, h2.set0 t67, hf.mod hm pI⟩, trivial, fun v h => h, fun v h => h, fun v h => h, fun v h => rowN h hm UX, fun v h => h.mod hm pI, fun v h => h, fun v h => h, fun v h => h, fun v h => ownN h hm UX, fun v ⟨r, g1, g2⟩ => ⟨r, rowN g1 hm UX, ownN g2 hm UX⟩, fun v h => h.mod hm pP, fun v h => h, fun v h => h, fun v h => h, fun v h => rowN h hm UX, fun v h => h.mod hm pS, fun v h => h, fun v h => h, trivial⟩
  · intro k _ _ W _ hC; rw [nilP_some]; exact ⟨Ext.refl _, hC, rfl⟩
  · rintro t W _ hC rfl; exact does_of (run_fieldX xb W).2.1 ⟨Ext.refl _, hC, rfl⟩
  · rintro t86 t75 W _ hC rfl hf
    obtain ⟨h1, c0, h2, h3⟩ := hC
    have hm := mod_xb W xb 1 t75
    have hm' := mono hm UX
    have hf0 := hf
    obtain ⟨r, g1, g2, g3⟩ := hf0
    obtain ⟨a, c, hs⟩ := g1.slice
    have pI : ∀ k, sI.ownBlock = some k ∨ w.heap.size ≤ k → ¬ k = xb := fun k g e => by
      rcases g with g | g
      · exact dIx (e ▸ g)
      · exact newN UX k g e
    have pP : ∀ k, sP.ownBlock = some k ∨ w.heap.size ≤ k → ¬ k = xb := fun k g e => by
      rcases g with g | g
      · exact dPx (e ▸ g)
      · exact newN UX k g e
    have pS : ∀ k, sS.ownBlock = some k ∨ w.heap.size ≤ k → ¬ k = xb := fun k g e => by
      rcases g with g | g
      · exact dSx (e ▸ g)
      · exact newN UX k g e
    refine does_of (store_slice sz_rows ⟨_, _, _, hs⟩ h2.cell.2.1 (h2.cell.2.2.2 1)) ?_
    refine ⟨hm', ⟨trans h1 hm', c0, t75, h2.set1 t75, h3.mod hm pI, hf.mod hm pP⟩, trivial, fun v h => h, fun v h => h, fun v h => h, fun v h => rowN h hm UX, fun v h => h.mod hm pI, fun v h => h, fun v h => h, fun v h => h, fun v h => ownN h hm UX, fun v ⟨r, g1, g2⟩ => ⟨r, rowN g1 hm UX, ownN g2 hm UX⟩, fun v h => h.mod hm pP, fun v h => h, fun v h => h, fun v h => h, fun v h => rowN h hm UX, fun v h => h.mod hm pS, fun v h => h, fun v h => h, fun v h => h, fun v h => h, trivial⟩
  · intro k _ _ W _ hC; rw [nilP_some]; exact ⟨Ext.refl _, hC, rfl⟩
  · rintro t W _ hC rfl; exact does_of (run_fieldX xb W).2.2 ⟨Ext.refl _, hC, rfl⟩
  · rintro t88 t82 W _ hC rfl hf
    obtain ⟨h1, c0, c1, h2, h3, h4⟩ := hC
    have hm := mod_xb W xb 2 t82
    have hm' := mono hm UX
    obtain ⟨a, c, hs⟩ := hf.1.slice
    have pI : ∀ k, sI.ownBlock = some k ∨ w.heap.size ≤ k → ¬ k = xb := fun k g e => by
      rcases g with g | g
      · exact dIx (e ▸ g)
      · exact newN UX k g e
    have pP : ∀ k, sP.ownBlock = some k ∨ w.heap.size ≤ k → ¬ k = xb := fun k g e => by
      rcases g with g | g
      · exact dPx (e ▸ g)
      · exact newN UX k g e
    have pS : ∀ k, sS.ownBlock = some k ∨ w.heap.size ≤ k → ¬ k = xb := fun k g e => by
      rcases g with g | g
      · exact dSx (e ▸ g)
      · exact newN UX k g e
    refine does_of (store_slice sz_ints ⟨_, _, _, hs⟩ h2.cell.2.2.1 (h2.cell.2.2.2 2)) ?_
    refine ⟨hm', ⟨trans h1 hm', c0, c1, t82, h2.set2 t82, h3.mod hm pI, h4.mod hm pP, hf.mod hm pS⟩, trivial, fun v h => h, fun v h => h, fun v h => h, fun v h => rowN h hm UX, fun v h => h.mod hm pI, fun v h => h, fun v h => h, fun v h => h, fun v h => ownN h hm UX, fun v ⟨r, g1, g2⟩ => ⟨r, rowN g1 hm UX, ownN g2 hm UX⟩, fun v h => h.mod hm pP, fun v h => h, fun v h => h, fun v h => h, fun v h => rowN h hm UX, fun v h => h.mod hm pS, fun v h => h, fun v h => h, fun v h => h, fun v h => h, fun v h => h, fun v h => h, trivial⟩
  · intro W _ hC
    exact hJ W hC.1 hC.2
end Go.Proofs.Ytcncgkkilgmphaa
