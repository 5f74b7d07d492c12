/-
  Contracts of the document's graph: where a commit is, is it there, its stamp, its parents, a commit added.
-/
import Derived.Test.YtcncgkkilgmphaaDk
import Derived.Test.YtcncgkkilgmphaaT5
set_option linter.unusedVariables false
set_option linter.unusedSimpArgs false
namespace Go.Proofs.Ytcncgkkilgmphaa
open Go Go.RowKit

/-! ### 1. own rows and sets of blocks -/
theorem Own.modIn {U : Nat → Prop} {w w' : World} {base : Nat} {e : TypeId} {v : Value} {xs : List Value} (h : Own w base e v xs) (hm : ModIn U w w') (hd : ∀ k, v.ownBlock = some k → ¬ U k) : Own w' base e v xs := by
  have hlt := h.lt
  refine ⟨h.1, ?_⟩
  rcases h.2 with h2 | ⟨g, cap, cur, rfl, hb, hg, hn, hm', hs, ht⟩
  · exact .inl h2
  · exact .inr ⟨g, cap, cur, rfl, hb, (hm.block g (hlt g rfl).2 (hd g rfl)).trans hg, hn, hm', hs, ht⟩
theorem Own.block {w : World} {base : Nat} {e : TypeId} {v : Value} {xs : List Value} {g : Nat} (h : Own w base e v xs) (hg : v.ownBlock = some g) : ∃ cur, w.heap[g]? = some (.cells cur e) := by
  rcases h.2 with ⟨rfl, _⟩ | ⟨g', cap, cur, rfl, _, hh, _⟩
  · simp [Value.ownBlock] at hg
  · simp only [Value.ownBlock, Option.some.injEq] at hg
    subst hg
    exact ⟨cur, hh⟩
theorem own_ne_own {w : World} {b b' : Nat} {e e' : TypeId} {v v' : Value} {xs xs' : List Value} (h : Own w b e v xs) (h' : Own w b' e' v' xs') (he : e ≠ e') : v.ownBlock = none ∨ v.ownBlock ≠ v'.ownBlock := by
  cases hv : v.ownBlock with
  | none => exact .inl rfl
  | some g =>
    refine .inr fun hh => ?_
    obtain ⟨c1, h1⟩ := h.block hv
    obtain ⟨c2, h2⟩ := h'.block hh.symm
    rw [h1] at h2
    cases h2
    exact he rfl
def XB (w : World) (xb : Nat) (c0 c1 c2 : Value) : Prop := w.heap[xb]? = some (.cells #[c0, c1, c2] 52)
theorem XB.ext {w w' : World} {xb : Nat} {c0 c1 c2 : Value} (h : XB w xb c0 c1 c2) (hE : Ext w w') : XB w' xb c0 c1 c2 := hE.block h
theorem XB.lt {w : World} {xb : Nat} {c0 c1 c2 : Value} (h : XB w xb c0 c1 c2) : xb < w.heap.size := (Array.getElem?_eq_some_iff.1 h).1
theorem XB.modIn {U : Nat → Prop} {w w' : World} {xb : Nat} {c0 c1 c2 : Value} (h : XB w xb c0 c1 c2) (hm : ModIn U w w') (hd : ¬ U xb) : XB w' xb c0 c1 c2 := (hm.block xb h.lt hd).trans h
theorem own_ne_xb {w : World} {b xb : Nat} {e : TypeId} {v c0 c1 c2 : Value} {xs : List Value} (h : Own w b e v xs) (hx : XB w xb c0 c1 c2) (he : e ≠ 52) : v.ownBlock ≠ some xb := fun hv => by
  obtain ⟨c, h1⟩ := h.block hv
  unfold XB at hx
  rw [h1] at hx
  cases hx
  exact he rfl
theorem XB.set0 {w : World} {xb : Nat} {c0 c1 c2 : Value} (h : XB w xb c0 c1 c2) (x : Value) : XB (w.setCell ⟨xb, 0, none⟩ x) xb x c1 c2 := by
  unfold XB at h ⊢
  simp only [World.setCell, Array.getElem?_modify, if_true, h, Option.map_some]
  rfl
theorem XB.set1 {w : World} {xb : Nat} {c0 c1 c2 : Value} (h : XB w xb c0 c1 c2) (x : Value) : XB (w.setCell ⟨xb, 1, none⟩ x) xb c0 x c2 := by
  unfold XB at h ⊢
  simp only [World.setCell, Array.getElem?_modify, if_true, h, Option.map_some]
  rfl
theorem XB.set2 {w : World} {xb : Nat} {c0 c1 c2 : Value} (h : XB w xb c0 c1 c2) (x : Value) : XB (w.setCell ⟨xb, 2, none⟩ x) xb c0 c1 x := by
  unfold XB at h ⊢
  simp only [World.setCell, Array.getElem?_modify, if_true, h, Option.map_some]
  rfl
theorem XB.cell {w : World} {xb : Nat} {c0 c1 c2 : Value} (h : XB w xb c0 c1 c2) : w.cell? ⟨xb, 0, none⟩ = some c0 ∧ w.cell? ⟨xb, 1, none⟩ = some c1 ∧ w.cell? ⟨xb, 2, none⟩ = some c2 ∧ ∀ i, w.frozen? ⟨xb, i, none⟩ = false := by
  unfold XB at h
  refine ⟨?_, ?_, ?_, fun i => ?_⟩ <;> simp [World.cell?, World.frozen?, h]
theorem run_fieldX (xb : Nat) (w : World) : (Instr.fieldAt 52 (.pointer (some ⟨xb, 0, none⟩)) 0).run Try.prog w = .ok (.pointer (some ⟨xb, 0, none⟩)) w ∧
    (Instr.fieldAt 52 (.pointer (some ⟨xb, 0, none⟩)) 1).run Try.prog w = .ok (.pointer (some ⟨xb, 1, none⟩)) w ∧ (Instr.fieldAt 52 (.pointer (some ⟨xb, 0, none⟩)) 2).run Try.prog w = .ok (.pointer (some ⟨xb, 2, none⟩)) w := by
  refine ⟨?_, ?_, ?_⟩ <;> simp [go_sem, Instr.fieldAt]
theorem agg_strs (w : World) : (isAgg 23).run Try.prog w = .ok false w := by kernel_rfl
theorem agg_rows (w : World) : (isAgg 49).run Try.prog w = .ok false w := by kernel_rfl
theorem agg_ints (w : World) : (isAgg 50).run Try.prog w = .ok false w := by kernel_rfl
theorem agg_int (w : World) : (isAgg 3).run Try.prog w = .ok false w := by kernel_rfl
theorem sz_strs (w : World) : (sizeOf 23).run Try.prog w = .ok 1 w := by kernel_rfl
theorem sz_rows (w : World) : (sizeOf 49).run Try.prog w = .ok 1 w := by kernel_rfl
theorem sz_ints (w : World) : (sizeOf 50).run Try.prog w = .ok 1 w := by kernel_rfl
theorem sz_int (w : World) : (sizeOf 3).run Try.prog w = .ok 1 w := by kernel_rfl
theorem u_rows : Try.prog.underlying 49 = some (.slice 23) := by kernel_rfl
theorem u_islice : Try.prog.underlying 50 = some (.slice 3) := by kernel_rfl
theorem info_strs : infoOf Try.prog 23 (.slice none 0 0) 24 := by unfold infoOf; kernel_rfl
theorem info_int : infoOf Try.prog 3 (.int .i64 0) 8 := by unfold infoOf; kernel_rfl
theorem zero_strs (w : World) : (zeroValue 23).run Try.prog w = .ok (.slice none 0 0) w := by kernel_rfl

/-! ### 2. the document's graph -/
/-- the rows of parents -/
def rowsR (Q : Value → List Value → Prop) : List Value → List Cm → Prop
  | [], [] => True
  | v :: l, c :: G => Q v (strsV c.ps) ∧ rowsR Q l G
  | _, _ => False
theorem rowsR.imp {Q Q' : Value → List Value → Prop} : ∀ {l : List Value} {G : List Cm}, rowsR Q l G → (∀ s c, c ∈ G → Q s (strsV c.ps) → Q' s (strsV c.ps)) → rowsR Q' l G
  | [], [], _, _ => trivial
  | v :: l, c :: G, ⟨h1, h2⟩, hi => ⟨hi v c (by simp) h1, rowsR.imp h2 fun s c' hc => hi s c' (by simp [hc])⟩
theorem rowsR.append {Q : Value → List Value → Prop} : ∀ {l : List Value} {G : List Cm} {v : Value} {c : Cm}, rowsR Q l G → Q v (strsV c.ps) → rowsR Q (l ++ [v]) (G ++ [c])
  | [], [], _, _, _, h => ⟨h, trivial⟩
  | _ :: _, _ :: _, _, _, ⟨h1, h2⟩, h => ⟨h1, rowsR.append h2 h⟩
theorem rowsR.length {Q : Value → List Value → Prop} : ∀ {l : List Value} {G : List Cm}, rowsR Q l G → l.length = G.length
  | [], [], _ => rfl
  | _ :: _, _ :: _, ⟨_, h⟩ => by simp [rowsR.length h]
theorem rowsR.get {Q : Value → List Value → Prop} : ∀ {l : List Value} {G : List Cm}, rowsR Q l G → ∀ {i : Nat} {c : Cm}, G[i]? = some c → ∃ v, l[i]? = some v ∧ Q v (strsV c.ps)
  | [], [], _, _, _, h => by simp at h
  | v :: l, c :: G, ⟨h1, h2⟩, 0, c', h => by simp at h; subst h; exact ⟨v, rfl, h1⟩
  | v :: l, c :: G, ⟨h1, h2⟩, i + 1, c', h => by simpa using rowsR.get h2 (i := i) (by simpa using h)
/-- A row of parents: in T; not in the graph's own blocks, but for cells of the names' block that are taken. -/
def RowQ (w : World) (T : Nat → Prop) (xb : Nat) (sI sP sS : Value) (n : Nat) (v : Value) (xs : List Value) : Prop :=
  RowIn (fun k => T k ∧ k ≠ xb ∧ ¬ sP.ownBlock = some k ∧ ¬ sS.ownBlock = some k) w v xs ∧ ∀ a m c, v = .slice (some a) m c → xs ≠ [] → sI.ownBlock = some a.block → a.off + xs.length ≤ n
def MX (xb : Nat) (sI sP sS : Value) (k : Nat) : Prop := k = xb ∨ sI.ownBlock = some k ∨ sP.ownBlock = some k ∨ sS.ownBlock = some k
def stampsV (G : List Cm) : List Value := G.map fun c => .int .i64 c.st
@[simp] theorem stampsV_length (G : List Cm) : (stampsV G).length = G.length := by simp [stampsV]
theorem idsOf_length (G : List Cm) : (idsOf G).length = G.length := by simp [idsOf]
structure RGc (w : World) (T : Nat → Prop) (xn : Nat) (sI sP sS : Value) (rows : List Value) (G : List Cm) : Prop where
  xb : XB w xn sI sP sS
  ids : Own w 0 9 sI (strsV (idsOf G))
  pss : Own w 0 23 sP rows
  sts : Own w 0 3 sS (stampsV G)
  rows : rowsR (RowQ w T xn sI sP sS G.length) rows G
  nodup : (idsOf G).Nodup
  inT : ∀ k, MX xn sI sP sS k → T k
/-- v is the document's graph with the commits G; all its memory is in T. -/
def RG (w : World) (T : Nat → Prop) (v : Value) (G : List Cm) : Prop := ∃ xb sI sP sS rows, v = .pointer (some ⟨xb, 0, none⟩) ∧ RGc w T xb sI sP sS rows G
theorem RGc.ext {w w' : World} {T : Nat → Prop} {xb : Nat} {sI sP sS : Value} {rows : List Value} {G : List Cm} (h : RGc w T xb sI sP sS rows G) (hE : Ext w w') : RGc w' T xb sI sP sS rows G :=
  ⟨h.xb.ext hE, h.ids.ext hE, h.pss.ext hE, h.sts.ext hE, h.rows.imp fun s c _ hr => ⟨hr.1.ext hE, hr.2⟩, h.nodup, h.inT⟩
theorem RG.ext {w w' : World} {T : Nat → Prop} {v : Value} {G : List Cm} (h : RG w T v G) (hE : Ext w w') : RG w' T v G := by
  obtain ⟨xb, sI, sP, sS, rows, h1, h2⟩ := h
  exact ⟨xb, sI, sP, sS, rows, h1, h2.ext hE⟩
theorem RG.mod {w w' : World} {T U : Nat → Prop} {v : Value} {G : List Cm} (h : RG w T v G) (hm : ModIn U w w') (hd : ∀ k, T k → ¬ U k) : RG w' T v G := by
  obtain ⟨xb, sI, sP, sS, rows, h1, h2⟩ := h
  exact ⟨xb, sI, sP, sS, rows, h1, h2.xb.modIn hm (hd _ (h2.inT _ (.inl rfl))), h2.ids.modIn hm (fun k hk => hd _ (h2.inT _ (.inr (.inl hk)))), h2.pss.modIn hm (fun k hk => hd _ (h2.inT _ (.inr (.inr (.inl hk))))),
    h2.sts.modIn hm (fun k hk => hd _ (h2.inT _ (.inr (.inr (.inr hk))))), h2.rows.imp fun s c _ hr => ⟨hr.1.mod hm fun k hk => hd _ hk.1, hr.2⟩, h2.nodup, h2.inT⟩
theorem RGc.mx_lt {w : World} {T : Nat → Prop} {xb : Nat} {sI sP sS : Value} {rows : List Value} {G : List Cm} (h : RGc w T xb sI sP sS rows G) {k : Nat} (hk : MX xb sI sP sS k) : k < w.heap.size := by
  rcases hk with rfl | hk | hk | hk
  · exact h.xb.lt
  · exact (h.ids.lt k hk).2
  · exact (h.pss.lt k hk).2
  · exact (h.sts.lt k hk).2
theorem RG.mono {w : World} {T U : Nat → Prop} {v : Value} {G : List Cm} (h : RG w T v G) (hT : ∀ k, k < w.heap.size → T k → U k) : RG w U v G := by
  obtain ⟨xb, sI, sP, sS, rows, h1, h2⟩ := h
  exact ⟨xb, sI, sP, sS, rows, h1, h2.xb, h2.ids, h2.pss, h2.sts, h2.rows.imp fun s c _ hr => ⟨hr.1.mono fun k hk ht => ⟨hT k hk ht.1, ht.2⟩, hr.2⟩, h2.nodup, fun k hk => hT k (h2.mx_lt hk) (h2.inT k hk)⟩
theorem RGc.loads {w : World} {T : Nat → Prop} {xb : Nat} {sI sP sS : Value} {rows : List Value} {G : List Cm} (h : RGc w T xb sI sP sS rows G) :
    (Instr.loadAt 23 (.pointer (some ⟨xb, 0, none⟩))).run Try.prog w = .ok sI w ∧ (Instr.loadAt 49 (.pointer (some ⟨xb, 1, none⟩))).run Try.prog w = .ok sP w ∧ (Instr.loadAt 50 (.pointer (some ⟨xb, 2, none⟩))).run Try.prog w = .ok sS w := by
  obtain ⟨h0, h1, h2, _⟩ := h.xb.cell
  exact ⟨run_load1 agg_strs h0, run_load1 agg_rows h1, run_load1 agg_ints h2⟩
/-- the place of a commit; -1: it is not there -/
def atG (G : List Cm) (k : ByteArray) : Int := if k ∈ idsOf G then ((idsOf G).findIdx (· == k) : Nat) else -1
theorem atG_none {G : List Cm} {k : ByteArray} (h : k ∉ idsOf G) : atG G k = -1 := by simp [atG, h]
theorem atG_some {G : List Cm} {k : ByteArray} (h : k ∈ idsOf G) : ∃ (i : Nat) (c : Cm), atG G k = i ∧ G[i]? = some c ∧ cmOf G k = some c ∧ i < G.length := by
  have hex : ∃ x ∈ idsOf G, (x == k) = true := ⟨k, h, by simp⟩
  have hlt := List.findIdx_lt_length.2 hex
  have hl : (idsOf G).length = G.length := idsOf_length G
  have hi : (idsOf G).findIdx (· == k) < G.length := by omega
  refine ⟨(idsOf G).findIdx (· == k), G[(idsOf G).findIdx (· == k)], by simp [atG, h], List.getElem?_eq_getElem hi, ?_, hi⟩
  unfold cmOf
  rw [List.find?_eq_some_iff_getElem]
  have hfm : (idsOf G).findIdx (· == k) = G.findIdx (fun c => c.id == k) := by unfold idsOf; rw [List.findIdx_map]; rfl
  refine ⟨?_, _, hi, rfl, fun j hj => ?_⟩
  · have := List.findIdx_getElem (w := hlt)
    simpa [idsOf] using this
  · have := List.not_of_lt_findIdx hj
    simpa [idsOf] using this
theorem at_spec {w : World} {T : Nat → Prop} {v : Value} {G : List Cm} {k : ByteArray} (h : RG w T v G) :
    Call Try.prog 59 #[v, .string k] w fun r w' => r = .int .i64 (atG G k) ∧ w' = w := by
  obtain ⟨xb, sI, sP, sS, rows, rfl, hc⟩ := h
  obtain ⟨l0, l1, l2⟩ := hc.loads
  obtain ⟨f0, f1, f2⟩ := run_fieldX xb w
  have hr := hc.ids.row
  have hle := hr.len_le
  simp at hle
  apply vc59
  unfold V59
  refine rounds1 (fun i : Nat => .int .i64 i) (fun i w' => i ≤ (idsOf G).length ∧ w' = w ∧ k ∉ (idsOf G).take i) (fun i _ => (idsOf G).length - i) 0 rfl ⟨by omega, rfl, by simp⟩ ?_
  rintro next i W ⟨hi, hW, hs⟩ hnext _
  rw [hW, nilP_some]
  refine does_of f0 (does_of l0 (hr.len u_strs (does_lt (condP_of (fun hlt => ?_) fun hge => ?_))))
  · have hlt' : i < (idsOf G).length := by simpa using hlt
    rw [nilP_some]
    refine does_of f0 (does_of l0 (hr.index u_strs sz_str (by simpa using hlt') fun p hp => does_load1 agg_str hp ?_))
    rw [strsV_get hlt']
    refine does_eqS (condP_of (fun he => ?_) fun hn => ?_)
    · simp only [decide_eq_true_eq] at he
      refine ⟨?_, rfl⟩
      have hm : k ∈ idsOf G := by rw [← he]; simp
      have hfi : (idsOf G).findIdx (· == k) = i := by
        rw [List.findIdx_eq hlt']
        refine ⟨by simp [he], fun j hj => ?_⟩
        have : (idsOf G)[j] ∈ (idsOf G).take i := List.mem_take_iff_getElem.2 ⟨j, by omega, rfl⟩
        simp only [beq_eq_false_iff_ne, ne_eq]
        exact fun e => hs (e ▸ this)
      simp [atG, hm, hfi]
    · simp only [decide_eq_false_iff_not] at hn
      refine does_add (by omega) (by omega) (hnext (i + 1) _ _ (by simp) ⟨by omega, rfl, not_mem_take_succ hs hlt' hn⟩ (by omega))
  · have hge' : ¬ i < (idsOf G).length := by simpa using hge
    have : i = (idsOf G).length := by omega
    subst this
    rw [List.take_length] at hs
    exact ⟨by rw [atG_none hs], rfl⟩
theorem rhas_spec {w : World} {T : Nat → Prop} {v : Value} {G : List Cm} {k : ByteArray} (h : RG w T v G) :
    Call Try.prog 27 #[v, .string k] w fun r w' => r = .bool (decide (k ∈ idsOf G)) ∧ w' = w := by
  apply vc27
  unfold V27
  refine (at_spec h).mono fun r w' ⟨h1, h2⟩ => ?_
  subst h1
  refine does_ge ⟨?_, h2⟩
  congr 1
  by_cases hk : k ∈ idsOf G
  · obtain ⟨i, c, hi, _⟩ := atG_some hk
    rw [hi]
    simp [hk]
  · rw [atG_none hk]
    simp [hk]
theorem stampsV_get {G : List Cm} {i : Nat} {c : Cm} (h : G[i]? = some c) : ∃ h' : i < (stampsV G).length, (stampsV G)[i] = .int .i64 c.st := by
  obtain ⟨h1, h2⟩ := List.getElem?_eq_some_iff.1 h
  exact ⟨by simpa using h1, by simp [stampsV, h2]⟩
theorem rstamp_spec {w : World} {T : Nat → Prop} {v : Value} {G : List Cm} {k : ByteArray} (h : RG w T v G) :
    Call Try.prog 29 #[v, .string k] w fun r w' => r = .int .i64 ((cmOf G k).elim (-1) (·.st)) ∧ Ext w w' := by
  apply vc29
  unfold V29
  refine (rhas_spec h).mono fun r w' ⟨h1, h2⟩ => ?_
  subst h1; subst h2
  refine does_not (condP_of (fun hn => ?_) fun hy => ?_)
  · simp at hn
    rw [cmOf_none.2 hn]
    exact ⟨rfl, Ext.refl _⟩
  · simp at hy
    obtain ⟨i, c, hi, hgi, hc, hil⟩ := atG_some hy
    refine q29_3 (Ext w') (Ext.drawn _) fun _ => ?_
    obtain ⟨xb, sI, sP, sS, rows, rfl, hcc⟩ := id h
    rw [nilP_some]
    refine q_step (fun W _ => (run_fieldX xb W).2.2) (q_step (fun W hW => (hcc.ext hW).loads.2.2) ?_)
    refine qcall_of (.int .i64 (atG G k)) (fun W hW => (at_spec (h.ext hW)).mono fun u W' ⟨g1, g2⟩ => ⟨g1, by rw [g2]; exact hW⟩) ?_
    rw [hi]
    obtain ⟨hl, hg⟩ := stampsV_get hgi
    refine q_index hcc.sts.row u_islice sz_int hl fun p hp => q_load agg_int hp ?_
    rw [hg, hc]
    exact fun W hW _ => ⟨rfl, hW⟩
theorem lt_of_getE {α : Type} {l : List α} {i : Nat} {x : α} (h : l[i]? = some x) : ∃ h' : i < l.length, l[i] = x := List.getElem?_eq_some_iff.1 h
theorem rparents_spec {w : World} {T : Nat → Prop} {v : Value} {G : List Cm} {k : ByteArray} (h : RG w T v G) (hb : ∀ c ∈ G, c.ps.length ≤ 1099511627776) :
    Call Try.prog 31 #[v, .string k] w fun r w' => Own w' w.heap.size 9 r (strsV (par G k)) ∧ Ext w w' := by
  apply vc31
  unfold V31
  refine (rhas_spec h).mono fun r w' ⟨h1, h2⟩ => ?_
  subst h1; subst h2
  refine does_not (condP_of (fun hn => ?_) fun hy => ?_)
  · simp at hn
    unfold par
    rw [cmOf_none.2 hn]
    exact ⟨Own.nil _ _ _, Ext.refl _⟩
  · simp at hy
    obtain ⟨i, c, hi, hgi, hc, hil⟩ := atG_some hy
    obtain ⟨xb, sI, sP, sS, rows, rfl, hcc⟩ := id h
    obtain ⟨rv, hrv, hrow⟩ := hcc.rows.get hgi
    have hpar : par G k = c.ps := by unfold par; rw [hc]; rfl
    refine p31_3 Ext (fun v _ => v = .pointer (some ⟨xb, 0, none⟩)) (fun v _ => v = .pointer (some ⟨xb, 1, none⟩)) (fun v _ => v = sP) (fun v _ => v = .int .i64 (i : Nat)) (fun v _ => ∃ p, v = .pointer (some p) ∧ w'.cell? p = some rv) (fun v _ => v = rv)
      (fun v W => Own W w'.heap.size 9 v (strsV (par G k))) Ext.refl (fun _ _ _ => Ext.trans) (FSt.pure _) (FSt.pure _) (FSt.pure _) (FSt.pure _) (FSt.pure _) (FSt.pure _) (FSt.own _ _ _) ?_ ?_ ?_ ?_ ?_ ?_ ?_ ?_
    · intro W _
      rw [nilP_some]
      exact ⟨Ext.refl _, trivial, rfl⟩
    · rintro t W _ rfl
      exact does_of (run_fieldX xb W).2.1 ⟨Ext.refl _, trivial, rfl⟩
    · rintro t W hW rfl
      exact does_of ((hcc.ext ((Ext.drawn w').trans hW)).loads.2.1) ⟨Ext.refl _, trivial, rfl⟩
    · intro W hW
      refine (at_spec (h.ext ((Ext.drawn w').trans hW))).mono fun u W' ⟨g1, g2⟩ => ⟨by rw [g2]; exact Ext.refl _, trivial, by rw [g1, hi]⟩
    · rintro t u W hW rfl rfl
      have hrl := lt_of_getE hrv
      obtain ⟨hrl1, hrl2⟩ := hrl
      refine (hcc.pss.row).index u_rows sz_strs hrl1 fun p hp => ⟨Ext.refl _, trivial, p, rfl, by rw [hp, hrl2]⟩
    · rintro t W hW ⟨p, rfl, hp⟩
      exact does_load1 agg_strs (((Ext.drawn w').trans hW).cell hp) ⟨Ext.refl _, trivial, rfl⟩
    · rintro t W hW rfl
      have hE := (Ext.drawn w').trans hW
      refine (copyTexts_spec (hrow.1.1.ext hE) (hb c (cmOf_mem hc).1)).mono fun u W' ⟨g1, g2⟩ => ⟨g2, trivial, ?_⟩
      rw [hpar]
      exact g1.mono hE.size
    · intro t W hW ht _
      exact ⟨ht, (Ext.drawn w').trans hW⟩
end Go.Proofs.Ytcncgkkilgmphaa
