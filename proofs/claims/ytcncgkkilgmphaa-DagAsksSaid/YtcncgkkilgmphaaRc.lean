/-
  Contracts of the document's graph: ancestors; is one an ancestor.
-/
import Derived.Test.YtcncgkkilgmphaaRb
set_option linter.unusedVariables false
set_option linter.unusedSimpArgs false
namespace Go.Proofs.Ytcncgkkilgmphaa
open Go Go.RowKit

theorem run_makeN {P : Program} {t e : TypeId} {z : Value} {bytes : Nat} (ht : P.underlying t = some (.slice e)) (hi : infoOf P e z bytes) (hz : z.cells = #[z]) (n : Nat) (hc : bytes * n ≤ 281474976710656) (hb : 0 < bytes) (w : World) :
    (Instr.makeSlice t (.int .i64 n) (.int .i64 n)).run P w = .ok (.slice (some ⟨w.heap.size, 0, none⟩) n n) (w.alloc (.cells (Array.replicate n z) e)) := by
  obtain ⟨i0, hi0, hzz⟩ := Option.map_eq_some_iff.1 hi
  simp only [Prod.mk.injEq] at hzz
  obtain ⟨hz0, hz1, hz2⟩ := hzz
  have hcb : n ≤ 281474976710656 := Nat.le_trans (Nat.le_mul_of_pos_left _ hb) hc
  have hw : IntKind.i64.wrap (n : Int) = n := wrap_i64 (by omega) (by omega)
  have hbig : ¬ (281474976710656 < (i0.bytes : Int) * (n : Int)) := by
    rw [hz2, ← Int.natCast_mul]
    omega
  have hcn : ¬ ((n : Int) < 0) := by omega
  have hzv : ∀ w, (zeroValue e).run P w = .ok z w := by intro w; simp [zeroValue, typeInfo, hi0, hz0]
  have hmap : (Array.range n).map (fun x => z.cells[x % z.cells.size]!) = Array.replicate n z := by
    apply Array.ext
    · simp
    · intro i h1 h2
      simp [hz, Nat.mod_one]
  by_cases h0 : n = 0
  · subst h0
    simp only [Instr.makeSlice, run_underlying ht, asInt, asIntOf, sizeOf, typeInfo, hi0, hz1, newRow, Sem.run_bind, Result.andThen_ok, Sem.run_pure, hw]
    simp [hi0, hz1, hzv, hz, show Array.range 0 = #[] from rfl]
  · simp only [Instr.makeSlice, run_underlying ht, asInt, asIntOf, sizeOf, typeInfo, hi0, hz1, newRow, Sem.run_bind, Result.andThen_ok, Sem.run_pure, hw]
    simp [hi0, hz1, hbig, hcn, h0, hzv]
    rw [hmap]

/-! ### 1. places -/
/-- each commit behind its parents -/
def Topo (G : List Cm) : Prop := ∀ (i : Nat) (c : Cm), G[i]? = some c → ∀ p ∈ c.ps, ∃ (j : Nat) (c' : Cm), j < i ∧ G[j]? = some c' ∧ c'.id = p
theorem Topo.closed {G : List Cm} (h : Topo G) : Closed G := by
  intro c hc p hp
  obtain ⟨i, hi, e⟩ := List.getElem_of_mem hc
  obtain ⟨j, c', _, h2, h3⟩ := h i c (by rw [← e]; exact List.getElem?_eq_getElem hi) p hp
  exact List.mem_map.2 ⟨c', List.mem_of_getElem? h2, h3⟩
theorem pos_unique {G : List Cm} (hn : (idsOf G).Nodup) {i j : Nat} {c c' : Cm} (h : G[i]? = some c) (h' : G[j]? = some c') (he : c.id = c'.id) : i = j := by
  have h1 : (idsOf G)[i]? = some c.id := by simp [idsOf, h]
  have h2 : (idsOf G)[j]? = some c.id := by simp [idsOf, h', he]
  exact (List.getElem?_inj (List.getElem?_eq_some_iff.1 h1).1 hn).1 (h1.trans h2.symm)
theorem cmOf_get {G : List Cm} (hn : (idsOf G).Nodup) {i : Nat} {c : Cm} (h : G[i]? = some c) : cmOf G c.id = some c ∧ atG G c.id = i := by
  have hm : c.id ∈ idsOf G := List.mem_map.2 ⟨c, List.mem_of_getElem? h, rfl⟩
  obtain ⟨j, c', h1, h2, h3, _⟩ := atG_some hm
  have := pos_unique hn h h2 (cmOf_mem h3).2.symm
  subst this
  rw [h] at h2
  cases h2
  exact ⟨h3, h1⟩
def flag (G : List Cm) (fl : List Int) (k : ByteArray) : Prop := ∃ (j : Nat) (c : Cm), G[j]? = some c ∧ c.id = k ∧ fl[j]? = some 1
theorem flag_set {G : List Cm} {fl : List Int} {k : ByteArray} {i : Nat} (h : flag G fl k) : flag G (fl.set i 1) k := by
  obtain ⟨j, c, h1, h2, h3⟩ := h
  refine ⟨j, c, h1, h2, ?_⟩
  by_cases e : i = j
  · subst e
    rw [List.getElem?_set_self (lt_of_getE h3).1]
  · rw [List.getElem?_set_ne e]
    exact h3
theorem intsV_set (fl : List Int) (i : Nat) (x : Int) : (intsV fl).set i (.int .i64 x) = intsV (fl.set i x) := by simp [intsV, List.map_set]
theorem intsV_get {fl : List Int} {i : Nat} {x : Int} (h : fl[i]? = some x) : ∃ h' : i < (intsV fl).length, (intsV fl)[i] = .int .i64 x := by
  obtain ⟨h1, h2⟩ := List.getElem?_eq_some_iff.1 h
  exact ⟨by simpa using h1, by simp [intsV, h2]⟩
structure AncSt where
  ov : Value
  m : Nat
  out : List ByteArray
  fl : List Int
structure RAsk (G : List Cm) (K : Nat) : Prop where
  topo : Topo G
  small : ∀ c ∈ G, c.ps.length ≤ K
  g : G.length ≤ 1048576
theorem store_flag {w : World} {b : Nat} {iv : Value} {fl : List Int} {i : Nat} {k : Unit → World → Prop} (ho : Own w b 3 iv (intsV fl)) (hi : i < fl.length)
    (hk : ∀ W, Own W b 3 iv (intsV (fl.set i 1)) → Mod iv.ownBlock w W → k () W) : ∀ (kk : IntKind), Does Try.prog (Instr.indexAt 50 iv (.int kk i)) w fun t w => Does Try.prog (Instr.storeAt 3 t (.int .i64 1)) w k := by
  intro kk
  refine ho.indexAt u_islice sz_int (by simpa using hi) fun g hg hb hc => ?_
  refine does_of (run_store1 sz_int rfl rfl hc (ho.notFrozen hg)) (hk _ ?_ (by rw [hg]; exact Mod.setCell _ _ _ _))
  have := ho.setCell (x := .int .i64 1) hg (i := i) (by simpa using hi)
  rwa [intsV_set] at this
set_option maxHeartbeats 1000000 in
theorem rancestors_spec {w : World} {T : Nat → Prop} {v iv : Value} {G : List Cm} {ids : List ByteArray} {K : Nat} (h : RG w T v G) (hr : Row w iv (strsV ids)) (hA : RAsk G K) :
    Call Try.prog 33 #[v, iv] w fun r w' => Ext w w' ∧ ∃ s L, r = .tuple #[s, .int .i64 (if known G ids then 0 else 7)] ∧ Own w' w.heap.size 9 s (strsV L) ∧ if known G ids then SetOf (Anc G ids) L else L = [] := by
  have hG := h
  obtain ⟨xb, sI, sP, sS, rows, rfl, hcc⟩ := h
  have hnd := hcc.nodup
  have hgl := hA.g
  have hlI := idsOf_length G
  apply vc33
  unfold V33
  rw [nilP_some]
  refine does_of (run_fieldX xb w).1 (does_of hcc.loads.1 (hcc.ids.row.len u_strs ?_))
  rw [strsV_length, hlI]
  refine does_of (run_makeN u_islice info_int rfl G.length (by omega) (by omega) w) ?_
  generalize hw1 : w.alloc (.cells (Array.replicate G.length (Value.int .i64 0)) 3) = w1
  have hE1 : Ext w w1 := by rw [← hw1]; exact (Ext.refl w).alloc _
  have hin1 : Own w1 w.heap.size 3 (.slice (some ⟨w.heap.size, 0, none⟩) G.length G.length) (intsV (List.replicate G.length 0)) := by
    rw [← hw1]
    refine ⟨by simp, .inr ⟨w.heap.size, G.length, _, by simp, Nat.le_refl _, heap_alloc_new w _, by simp, by simp only [maxLen]; omega, by simp, ?_⟩⟩
    simp [intsV, List.map_replicate]
  generalize hfv : Value.slice (some ⟨w.heap.size, 0, none⟩) G.length G.length = fv
  rw [hfv] at hin1
  have hile := hr.len_le
  simp at hile
  -- the names
  refine rounds1 (σ := Nat × List Int) (fun t => .int .i64 (t.1 : Nat)) (fun t W => t.1 ≤ ids.length ∧ Ext w W ∧ Own W w.heap.size 3 fv (intsV t.2) ∧ t.2.length = G.length ∧ known G (ids.take t.1) = true ∧ (∀ k, flag G t.2 k → Anc G ids k) ∧ (∀ x ∈ ids.take t.1, flag G t.2 x) ∧
      (∀ (j : Nat) (x : Int), t.2[j]? = some x → x = 0 ∨ x = 1)) (fun t _ => ids.length - t.1)
    (0, List.replicate G.length 0) rfl ⟨by simp, hE1, hin1, by simp, by simp [known], ?_, by simp, ?_⟩ ?_
  · rintro k ⟨j, c, h1, h2, h3⟩
    have := List.mem_of_getElem? h3
    rw [List.mem_replicate] at this
    omega
  · intro j x hx
    have := List.mem_of_getElem? hx
    rw [List.mem_replicate] at this
    exact .inl this.2
  rintro next ⟨i, fl⟩ W ⟨hil, hE, hfl, hfll, hkn, hanc, hall, h01⟩ hnext _
  simp only at hil hE hfl hfll hkn hanc hall h01 ⊢
  have hRW := hG.ext hE
  refine (hr.ext hE).len u_strs (does_lt (condP_of (fun hlt => ?_) fun hge => ?_))
  · have hlt' : i < ids.length := by simpa using hlt
    refine (hr.ext hE).index u_strs sz_str (by simpa using hlt') fun p hp => does_load1 agg_str hp ?_
    rw [strsV_get hlt']
    refine (rhas_spec hRW).mono fun u W2 ⟨hu, hW2⟩ => ?_
    subst hu
    rw [hW2]
    refine does_not (condP_of (fun hno => ?_) fun hyes => ?_)
    · simp only [Bool.not_eq_true', decide_eq_false_iff_not] at hno
      have : ¬ known G ids = true := fun hk => hno (known_iff.1 hk _ (by simp))
      exact ⟨hE, .slice none 0 0, [], by simp [this], Own.nil _ _ _, by simp [this]⟩
    · simp only [Bool.not_eq_false', decide_eq_true_eq] at hyes
      obtain ⟨j, c, hj, hgj, hcm, hjl⟩ := atG_some hyes
      refine (hr.ext hE).index u_strs sz_str (by simpa using hlt') fun p hp => does_load1 agg_str hp ?_
      rw [strsV_get hlt']
      refine (at_spec hRW).mono fun u W3 ⟨hu, hW3⟩ => ?_
      subst hu
      rw [hW3, hj]
      refine store_flag hfl (by omega) (fun W4 ho4 hm4 => ?_) _
      have hE4 : Ext w W4 := Mod.ext hE hm4 (fun k hk => hfl.ge k hk)
      refine does_add (by omega) (by omega) (hnext (i + 1, fl.set j 1) _ W4 (by simp) ⟨by simp only; omega, hE4, ho4, by simpa using hfll, ?_, ?_, ?_, ?_⟩ (by simp only; omega))
      · simp only
        rw [take_succ hlt']
        unfold known at hkn ⊢
        rw [List.all_append, hkn]
        simp [hyes]
      · rintro k ⟨j', c', h1, h2, h3⟩
        by_cases e : j = j'
        · subst e
          rw [hgj] at h1
          cases h1
          rw [← h2, (cmOf_mem hcm).2]
          exact .base (by simp)
        · rw [List.getElem?_set_ne e] at h3
          exact hanc k ⟨j', c', h1, h2, h3⟩
      · intro x hx
        simp only at hx
        rw [take_succ hlt'] at hx
        rcases List.mem_append.1 hx with hx | hx
        · exact flag_set (hall x hx)
        · rw [List.mem_singleton.1 hx]
          exact ⟨j, c, hgj, (cmOf_mem hcm).2, List.getElem?_set_self (by omega)⟩
      · intro j' x hx
        by_cases e : j = j'
        · subst e
          rw [List.getElem?_set_self (by omega)] at hx
          cases hx; exact .inr rfl
        · rw [List.getElem?_set_ne e] at hx
          exact h01 j' x hx
  · have hie : i = ids.length := by
      have : ¬ i < ids.length := by simpa using hge
      omega
    subst hie
    rw [List.take_length] at hkn hall
    simp only [hkn, if_true]
    rw [nilP_some]
    have hcW := hcc.ext hE
    refine does_of (run_fieldX xb W).1 (does_of hcW.loads.1 (hcW.ids.row.len u_strs ?_))
    rw [strsV_length, hlI]
    refine does_sub (by omega) (by omega) ?_
    refine rounds2 (σ := AncSt) (fun t => t.ov) (fun t => .int .i64 ((t.m : Int) - 1)) (fun t W => t.m ≤ G.length ∧ Ext w W ∧ Own W w.heap.size 3 fv (intsV t.fl) ∧ t.fl.length = G.length ∧ Own W w.heap.size 9 t.ov (strsV t.out) ∧ t.out.length + t.m ≤ G.length ∧
        (∀ k, flag G t.fl k → Anc G ids k) ∧ (∀ x ∈ ids, flag G t.fl x) ∧ (∀ (j : Nat) (x : Int), t.fl[j]? = some x → x = 0 ∨ x = 1) ∧ (∀ x ∈ t.out, Anc G ids x) ∧
        (∀ (j : Nat) (c : Cm), t.m ≤ j → G[j]? = some c → t.fl[j]? = some 1 → c.id ∈ t.out ∧ ∀ p ∈ c.ps, flag G t.fl p)) (fun t _ => t.m)
      ⟨.slice none 0 0, G.length, [], fl⟩ rfl rfl ⟨Nat.le_refl _, hE, hfl, hfll, Own.nil _ _ _, by simp, hanc, hall, h01, by simp, fun j c hj hgj => by have := lt_of_getE hgj; obtain ⟨h1, _⟩ := this; simp only at hj; omega⟩ ?_
    rintro next2 ⟨ov, m, out, fl⟩ W ⟨hmG, hE, hfl, hfll, hov, hom, hanc, hall, h01, hout, hdone⟩ hnext2 _
    simp only at hmG hE hfl hfll hov hom hanc hall h01 hout hdone ⊢
    have hcW := hcc.ext hE
    refine does_ge (condP_of (fun hpos => ?_) fun hneg => ?_)
    · have hm1 : 1 ≤ m := by simp only [decide_eq_true_eq] at hpos; omega
      obtain ⟨m, rfl⟩ : ∃ m', m = m' + 1 := ⟨m - 1, by omega⟩
      have hmi : (((m + 1 : Nat) : Int) - 1) = ((m : Nat) : Int) := by omega
      rw [hmi]
      obtain ⟨c, hgc⟩ : ∃ c, G[m]? = some c := ⟨_, List.getElem?_eq_getElem (show m < G.length by omega)⟩
      obtain ⟨x, hx⟩ : ∃ x, fl[m]? = some x := ⟨_, List.getElem?_eq_getElem (show m < fl.length by omega)⟩
      obtain ⟨hxl, hxg⟩ := intsV_get hx
      refine hfl.row.index u_islice sz_int hxl fun p hp => does_load1 agg_int hp ?_
      rw [hxg]
      refine does_eqI (condP_of (fun hz => ?_) fun hnz => ?_)
      · have hx0 : x = 0 := by simpa using hz
        refine does_sub (by omega) (by omega) (hnext2 ⟨ov, m, out, fl⟩ _ _ W rfl rfl ⟨by simp only; omega, hE, hfl, hfll, hov, by simp only; omega, hanc, hall, h01, hout, fun j c' hj hgj hfj => ?_⟩ (by simp only; omega))
        rcases Nat.lt_or_ge m j with h1 | h1
        · exact hdone j c' h1 hgj hfj
        · have : j = m := by simp only at hj; omega
          subst this
          rw [hx, hx0] at hfj
          cases hfj
      · have hx1 : x = 1 := by
          rcases h01 m x hx with h | h
          · rw [h] at hnz; simp at hnz
          · exact h
        rw [hx1] at hx
        have hancc : Anc G ids c.id := hanc c.id ⟨m, c, hgc, rfl, hx⟩
        rw [nilP_some]
        have hidm : (idsOf G)[m]? = some c.id := by simp [idsOf, hgc]
        obtain ⟨hil', hig⟩ := lt_of_getE hidm
        refine does_of (run_fieldX xb W).1 (does_of hcW.loads.1 (hcW.ids.row.index u_strs sz_str (by simpa using hil') fun p hp => does_load1 agg_str hp ?_))
        rw [strsV_get hil', hig]
        refine does_of (run_buildSlice1 u_strs sz_str zero_str rfl rfl W) ?_
        have hAl : Ext W (W.alloc (.cells #[.string c.id] 9)) := (Ext.refl W).alloc _
        have rN : Row (W.alloc (.cells #[.string c.id] 9)) (.slice (some ⟨W.heap.size, 0, none⟩) 1 1) (strsV [c.id]) := (own_single (base := 0) 9 (.string c.id) (Nat.zero_le _)).row
        refine (hov.ext hAl).append u_strs info_str rfl rN (strsV_one _) (by simp; omega) (by omega) (hE.trans hAl).size fun ov2 W2 hov2 hg2 _ => ?_
        have hE2 : Ext w W2 := (hE.trans hAl).grownOwn (hov.ext hAl) hg2
        have hfl2 : Own W2 w.heap.size 3 fv (intsV fl) := (hfl.ext hAl).kept hg2 (own_ne_own (hfl.ext hAl) (hov.ext hAl) (by decide))
        obtain ⟨rv, hrv, hrow⟩ := hcc.rows.get hgc
        obtain ⟨hrl, hrg⟩ := lt_of_getE hrv
        have hpar : par G c.id = c.ps := by unfold par; rw [(cmOf_get hnd hgc).1]; rfl
        have hcl := hA.topo m c hgc
        have hpl := hrow.1.row.len_le
        simp at hpl
        refine rounds1 (σ := Nat × List Int) (fun t => .int .i64 (t.1 : Nat)) (fun t W => t.1 ≤ c.ps.length ∧ Ext w W ∧ Own W w.heap.size 3 fv (intsV t.2) ∧ t.2.length = G.length ∧ Own W w.heap.size 9 ov2 (strsV (out ++ [c.id])) ∧ (∀ k, flag G t.2 k → Anc G ids k) ∧ (∀ k, flag G fl k → flag G t.2 k) ∧
            (∀ (j : Nat) (x : Int), t.2[j]? = some x → x = 0 ∨ x = 1) ∧ (∀ (j : Nat), m ≤ j → t.2[j]? = fl[j]?) ∧ (∀ p ∈ c.ps.take t.1, flag G t.2 p)) (fun t _ => c.ps.length - t.1)
          (0, fl) rfl ⟨by simp, hE2, hfl2, hfll, by rw [strsV_append]; exact hov2, hanc, fun k h => h, h01, fun j _ => rfl, by simp⟩ ?_
        rintro next3 ⟨k, fl3⟩ W3 ⟨hkl, hE3, hfl3, hfll3, hov3, hanc3, hmono3, h013, hsame3, hps3⟩ hnext3 _
        simp only at hkl hE3 hfl3 hfll3 hov3 hanc3 hmono3 h013 hsame3 hps3 ⊢
        have hcW3 := hcc.ext hE3
        rw [nilP_some]
        refine does_of (run_fieldX xb W3).2.1 (does_of hcW3.loads.2.1 (hcW3.pss.row.index u_rows sz_strs hrl fun p hp => does_load1 agg_strs hp ?_))
        rw [hrg]
        refine (hrow.1.row.ext hE3).len u_strs (does_lt (condP_of (fun hlt3 => ?_) fun hge3 => ?_))
        · have hlt3' : k < c.ps.length := by simpa using hlt3
          rw [nilP_some]
          refine does_of (run_fieldX xb W3).2.1 (does_of hcW3.loads.2.1 (hcW3.pss.row.index u_rows sz_strs hrl fun p hp => does_load1 agg_strs hp ?_))
          rw [hrg]
          refine (hrow.1.row.ext hE3).index u_strs sz_str (by simpa using hlt3') fun p hp => does_load1 agg_str hp ?_
          rw [strsV_get hlt3']
          refine (at_spec (hG.ext hE3)).mono fun u W4 ⟨hu, hW4⟩ => ?_
          subst hu
          rw [hW4]
          obtain ⟨j, c', hjm, hgj, hcid⟩ := hcl c.ps[k] (by simp)
          have hat := (cmOf_get hnd hgj).2
          rw [hcid] at hat
          rw [hat]
          refine store_flag hfl3 (by omega) (fun W5 ho5 hm5 => ?_) _
          have hE5 : Ext w W5 := Mod.ext hE3 hm5 (fun k hk => hfl3.ge k hk)
          refine does_add (by omega) (by omega) (hnext3 (k + 1, fl3.set j 1) _ W5 (by simp) ⟨by simp only; omega, hE5, ho5, by simpa using hfll3, hm5.own hov3 (own_ne_own hov3 hfl3 (by decide)), ?_, fun k h => flag_set (hmono3 k h), ?_, ?_, ?_⟩ (by simp only; omega))
          · rintro k' ⟨j', c2, h1, h2, h3⟩
            by_cases e : j = j'
            · subst e
              rw [hgj] at h1
              cases h1
              rw [← h2, hcid]
              exact .step hancc (by rw [hpar]; simp)
            · rw [List.getElem?_set_ne e] at h3
              exact hanc3 k' ⟨j', c2, h1, h2, h3⟩
          · intro j' x hx
            by_cases e : j = j'
            · subst e
              rw [List.getElem?_set_self (by omega)] at hx
              cases hx; exact .inr rfl
            · rw [List.getElem?_set_ne e] at hx
              exact h013 j' x hx
          · intro j' hj'
            simp only
            rw [List.getElem?_set_ne (by omega)]
            exact hsame3 j' hj'
          · intro p hp
            simp only at hp
            rw [take_succ hlt3'] at hp
            rcases List.mem_append.1 hp with hp | hp
            · exact flag_set (hps3 p hp)
            · rw [List.mem_singleton.1 hp]
              exact ⟨j, c', hgj, hcid, List.getElem?_set_self (by omega)⟩
        · have hke : k = c.ps.length := by
            have : ¬ k < c.ps.length := by simpa using hge3
            omega
          subst hke
          rw [List.take_length] at hps3
          refine does_sub (by omega) (by omega) (hnext2 ⟨ov2, m, out ++ [c.id], fl3⟩ _ _ W3 rfl rfl ⟨by simp only; omega, hE3, hfl3, hfll3, hov3, by simp only [List.length_append, List.length_singleton]; omega, hanc3, fun x hx => hmono3 x (hall x hx), h013, ?_, ?_⟩ (by simp only; omega))
          · intro x hx
            rcases List.mem_append.1 hx with hx | hx
            · exact hout x hx
            · rw [List.mem_singleton.1 hx]; exact hancc
          · intro j c2 hj hgj hfj
            simp only at hj hfj ⊢
            rcases Nat.lt_or_ge m j with h1 | h1
            · have := hdone j c2 h1 hgj (by rw [← hsame3 j hj]; exact hfj)
              exact ⟨List.mem_append.2 (.inl this.1), fun p hp => hmono3 p (this.2 p hp)⟩
            · have : j = m := by omega
              subst this
              rw [hgc] at hgj
              cases hgj
              exact ⟨by simp, hps3⟩
    · have hm0 : m = 0 := by simp only [decide_eq_false_iff_not] at hneg; omega
      subst hm0
      refine (munique_spec hov.row (by omega)).mono fun u W2 ⟨ho2, hE2⟩ => ⟨hE.trans hE2, u, _, rfl, ho2.mono hE.size, usort_strict out, fun k => ?_⟩
      rw [mem_usort]
      refine ⟨hout k, fun hk => ?_⟩
      have hf : flag G fl k := by
        induction hk with
        | base h => exact hall _ h
        | step hk hp ih =>
          obtain ⟨j, c, h1, h2, h3⟩ := ih
          refine (hdone j c (Nat.zero_le _) h1 h3).2 _ ?_
          rw [← h2] at hp
          unfold par at hp
          rw [(cmOf_get hnd h1).1] at hp
          exact hp
      obtain ⟨j, c, h1, h2, h3⟩ := hf
      rw [← h2]
      exact (hdone j c (Nat.zero_le _) h1 h3).1
end Go.Proofs.Ytcncgkkilgmphaa
