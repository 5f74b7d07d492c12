/-
  Contracts of the graph's walks: all that commits come from; a map's keys in order.
-/
import Derived.Test.YtcncgkkilgmphaaDg
set_option linter.unusedVariables false
set_option linter.unusedSimpArgs false
namespace Go.Proofs.Ytcncgkkilgmphaa
open Go Go.RowKit

/-! ### 1. plain -/
theorem nodup_le : ∀ {l m : List ByteArray}, l.Nodup → (∀ x ∈ l, x ∈ m) → l.length ≤ m.length
  | [], _, _, _ => by simp
  | a :: l, m, hn, h => by
    have ha := h a (by simp)
    have h1 := nodup_le (l := l) (m := m.erase a) (List.nodup_cons.1 hn).2 fun x hx =>
      (List.mem_erase_of_ne (fun e : x = a => (List.nodup_cons.1 hn).1 (by rw [← e]; exact hx))).2 (h x (by simp [hx]))
    rw [List.length_erase_of_mem ha] at h1
    have : 0 < m.length := List.length_pos_of_mem ha
    simp only [List.length_cons]
    omega
def par (G : List Cm) (k : ByteArray) : List ByteArray := (cmOf G k).elim [] (·.ps)
/-- k is of ids, or comes ahead of one of them. -/
inductive Anc (G : List Cm) (ids : List ByteArray) : ByteArray → Prop
  | base {k : ByteArray} : k ∈ ids → Anc G ids k
  | step {k p : ByteArray} : Anc G ids k → p ∈ par G k → Anc G ids p
def Closed (G : List Cm) : Prop := ∀ c ∈ G, ∀ p ∈ c.ps, p ∈ idsOf G
theorem known_iff {G : List Cm} {ids : List ByteArray} : known G ids = true ↔ ∀ i ∈ ids, i ∈ idsOf G := by simp [known]
theorem par_known {G : List Cm} (hG : Closed G) {k p : ByteArray} (h : p ∈ par G k) : p ∈ idsOf G := by
  unfold par at h
  cases hc : cmOf G k with
  | none => rw [hc] at h; cases h
  | some c => rw [hc] at h; exact hG c (cmOf_mem hc).1 p h
theorem Anc.known {G : List Cm} (hG : Closed G) {ids : List ByteArray} (hk : known G ids = true) {k : ByteArray} (h : Anc G ids k) : k ∈ idsOf G := by
  cases h with
  | base h => exact known_iff.1 hk _ h
  | step _ h => exact par_known hG h
structure Fits (G : List Cm) (K : Nat) : Prop where
  closed : Closed G
  small : ∀ c ∈ G, c.ps.length ≤ K
theorem Fits.par {G : List Cm} {K : Nat} (h : Fits G K) (k : ByteArray) : (par G k).length ≤ K := by
  unfold Go.Proofs.Ytcncgkkilgmphaa.par
  cases hc : cmOf G k with
  | none => simp
  | some c => exact h.small c (cmOf_mem hc).1
theorem own_ne_map {w : World} {b base : Nat} {l : KV} {e : TypeId} {v : Value} {xs : List Value} (h : MapAt w b l) (ho : Own w base e v xs) : v.ownBlock = none ∨ v.ownBlock ≠ some b := by
  rcases ho.2 with ⟨rfl, _⟩ | ⟨g, cap, cur, rfl, _, hg, _⟩
  · exact .inl rfl
  · refine .inr fun e => ?_
    simp only [Value.ownBlock, Option.some.injEq] at e
    subst e
    obtain ⟨es, c, h1, _⟩ := h
    rw [h1] at hg
    cases hg

/-! ### 2. reach -/
structure ReachSt where
  wv : Value
  work : List ByteArray
  m : KV
theorem reach_spec {w : World} {T : Nat → Prop} {gv iv : Value} {G : List Cm} {ids : List ByteArray} {K : Nat} (h : PG w T gv G) (hr : Row w iv (strsV ids)) (hF : Fits G K) (hl : ids.length + G.length * K ≤ 1099511627776) :
    Call Try.prog 60 #[gv, iv] w fun v w' => Ext w w' ∧ if known G ids then ∃ mb m, v = .tuple #[.map (some mb), .int .i64 0] ∧ w.heap.size ≤ mb ∧ MapAt w' mb m ∧ ∀ k, k ∈ keysOf m ↔ Anc G ids k else v = .tuple #[.map none, .int .i64 7] := by
  apply vc60
  unfold V60
  refine does_of (run_makeMap' _ w) ?_
  have hE0 : Ext w (w.alloc (.map #[] 0)) := (Ext.refl w).alloc _
  have hlen : ids.length ≤ 1099511627776 := by omega
  refine (clone_spec (hr.ext hE0) hlen).mono fun v1 w1 ⟨ho1, hE1⟩ => ?_
  have hn := h.nodup
  refine rounds1 (σ := ReachSt) (fun s => s.wv) (fun s W => Own W w.heap.size 9 s.wv (strsV s.work) ∧ Ext w W ∧ MapAt W w.heap.size s.m ∧ (∀ k ∈ keysOf s.m, Anc G ids k ∧ k ∈ idsOf G) ∧ (∀ k ∈ s.work, Anc G ids k) ∧
      (∀ i ∈ ids, i ∈ keysOf s.m ∨ i ∈ s.work) ∧ (∀ k ∈ keysOf s.m, ∀ p ∈ par G k, p ∈ keysOf s.m ∨ p ∈ s.work) ∧ s.work.length ≤ ids.length + s.m.length * K) (fun s _ => (G.length - s.m.length) * (K + 1) + s.work.length)
    ⟨v1, ids, []⟩ rfl ⟨ho1.mono hE0.size, hE0.trans hE1, (map_made w).ext hE1, by simp [keysOf], fun k hk => .base hk, fun i hi => .inr hi, by simp [keysOf], by simp⟩ ?_
  rintro next ⟨wv, work, m⟩ w2 ⟨ho, hE, hm, hanc, hwork, hids, hpar, hsz⟩ hnext _
  simp only at ho hE hm hanc hwork hids hpar hsz ⊢
  refine ho.row.len u_strs (does_gt (condP_of (fun hpos => ?_) fun hz => ?_))
  · obtain ⟨front, id, rfl⟩ : ∃ l x, work = l ++ [x] := by
      have hne : work ≠ [] := by
        rintro rfl
        simp [strsV] at hpos
      exact ⟨work.dropLast, work.getLast hne, (List.dropLast_concat_getLast hne).symm⟩
    have hlen2 : (strsV (front ++ [id])).length = front.length + 1 := by simp
    simp only [List.length_append, List.length_singleton] at hsz
    have hmle : m.length ≤ G.length := by
      have := nodup_le hm.nodup fun k hk => (hanc k hk).2
      simpa [keysOf, idsOf] using this
    have hmK : m.length * K ≤ G.length * K := Nat.mul_le_mul_right K hmle
    have hsub : (((strsV (front ++ [id])).length : Int) - 1) = ((front.length : Nat) : Int) := by rw [hlen2]; omega
    refine ho.row.len u_strs (does_sub (by rw [hsub]; omega) (by rw [hsub]; omega) ?_)
    rw [hsub]
    refine ho.row.index (i := front.length) u_strs sz_str (by omega) fun p hp => does_load1 agg_str hp ?_
    have hget : (strsV (front ++ [id]))[front.length]'(by omega) = .string id := by simp [strsV]
    rw [hget]
    refine ho.row.len u_strs (does_sub (by rw [hsub]; omega) (by rw [hsub]; omega) ?_)
    rw [hsub]
    refine ho.upto (h := front.length) u_strs sz_str (by omega) fun v3 ho3 hb3 => ?_
    have htake : (strsV (front ++ [id])).take front.length = strsV front := by simp [strsV]
    rw [htake] at ho3
    refine (dhas_spec (h.ext hE)).mono fun v4 w4 ⟨hv4, hE4⟩ => ?_
    subst hv4
    have hEw4 := hE.trans hE4
    have hancid : Anc G ids id := hwork id (by simp)
    refine does_of (run_not w4) (condP_of (fun hno => ?_) fun hyes => ?_)
    · simp only [Bool.not_eq_true', decide_eq_false_iff_not] at hno
      have : ¬ known G ids = true := fun hk => hno (hancid.known hF.closed hk)
      exact ⟨hEw4, by simp [this]⟩
    simp only [Bool.not_eq_false', decide_eq_true_eq] at hyes
    refine does_of ((hm.ext hE4).lookupOk u_ints u_str (zero_int w4) id) (does_extract rfl (does_extract rfl (condP_of (fun hmet => ?_) fun hnew => ?_)))
    · simp only [decide_eq_true_eq] at hmet
      refine hnext ⟨v3, front, m⟩ _ w4 rfl ⟨ho3.ext hE4, hEw4, hm.ext hE4, hanc, fun k hk => hwork k (by simp [hk]), fun i hi => ?_, fun k hk p hp => ?_, by simp only; omega⟩ (by simp)
      · rcases hids i hi with h1 | h1
        · exact .inl h1
        · rcases List.mem_append.1 h1 with h2 | h2
          · exact .inr h2
          · exact .inl (by rw [List.mem_singleton.1 h2]; exact hmet)
      · rcases hpar k hk p hp with h1 | h1
        · exact .inl h1
        · rcases List.mem_append.1 h1 with h2 | h2
          · exact .inr h2
          · exact .inl (by rw [List.mem_singleton.1 h2]; exact hmet)
    · simp only [decide_eq_false_iff_not] at hnew
      obtain ⟨w5, hrun, hm5, hmod, hsz5⟩ := (hm.ext hE4).update u_ints u_str id (.int .i64 1)
      refine does_of hrun ?_
      have hE5 : Ext w w5 := Mod.ext hEw4 hmod (fun k hk => by cases hk; exact Nat.le_refl _)
      have ho5 : Own w5 w.heap.size 9 v3 (strsV front) := hmod.own (ho3.ext hE4) (own_ne_map (hm.ext hE4) (ho3.ext hE4))
      obtain ⟨gb, mb, rfl, h2, h3, hlo, hk⟩ := (h.ext hE5).get
      obtain ⟨s, x, h4, hs, _, hrow, _⟩ := hk id
      rw [nilP_some]
      refine does_of (run_fieldG gb w5) (does_of hlo (does_of h4 (does_of (run_node0 s hs x w5) ?_)))
      have hpl := hF.par id
      have hnd : (keysOf (ins m id (.int .i64 1))).Nodup := hm5.nodup
      have hkeys : keysOf (ins m id (.int .i64 1)) = keysOf m ++ [id] := by rw [keysOf_ins, if_neg hnew]
      have hml : m.length + 1 ≤ G.length := by
        have := nodup_le hnd (m := idsOf G) fun k hk => by
          rcases mem_keysOf_ins.1 hk with rfl | hk
          · exact hyes
          · exact (hanc k hk).2
        rw [hkeys] at this
        simpa [keysOf, idsOf] using this
      have hmK1 : (m.length + 1) * K ≤ G.length * K := Nat.mul_le_mul_right K hml
      have hmK2 : (m.length + 1) * K = m.length * K + K := Nat.succ_mul _ _
      have hinl : (ins m id (.int .i64 1)).length = m.length + 1 := by rw [ins_new hnew]; simp
      have hparlen : ((cmOf G id).elim [] (·.ps)).length ≤ K := hpl
      refine ho5.append u_strs info_str rfl hrow.row (strsV_one _) (by simp only [strsV_length]; omega) (by omega) hE5.size fun v6 w6 ho6 hg6 _ => ?_
      refine hnext ⟨v6, front ++ par G id, ins m id (.int .i64 1)⟩ _ w6 rfl ⟨by rw [strsV_append]; exact ho6, hE5.grownOwn ho5 hg6, hm5.mod hg6 ?_, fun k hk => ?_, fun k hk => ?_, fun i hi => ?_, fun k hk q hq => ?_, ?_⟩ ?_
      · rcases own_ne_map hm5 ho5 with e | e
        · rw [e]; simp
        · exact fun h => e h.symm
      · rcases mem_keysOf_ins.1 hk with rfl | hk
        · exact ⟨hancid, hyes⟩
        · exact hanc k hk
      · rcases List.mem_append.1 hk with hk | hk
        · exact hwork k (by simp [hk])
        · exact .step hancid hk
      · rcases hids i hi with h1 | h1
        · exact .inl (mem_keysOf_ins.2 (.inr h1))
        · rcases List.mem_append.1 h1 with h2 | h2
          · exact .inr (by simp [h2])
          · exact .inl (mem_keysOf_ins.2 (.inl (List.mem_singleton.1 h2)))
      · rcases mem_keysOf_ins.1 hk with rfl | hk
        · exact .inr (List.mem_append.2 (.inr hq))
        · rcases hpar k hk q hq with h1 | h1
          · exact .inl (mem_keysOf_ins.2 (.inr h1))
          · rcases List.mem_append.1 h1 with h2 | h2
            · exact .inr (by simp [h2])
            · exact .inl (mem_keysOf_ins.2 (.inl (List.mem_singleton.1 h2)))
      · simp only [List.length_append, hinl, hmK2]
        omega
      · simp only [List.length_append, List.length_singleton, hinl]
        obtain ⟨d, hd⟩ : ∃ d, G.length = m.length + 1 + d := ⟨G.length - (m.length + 1), by omega⟩
        have e1 : G.length - (m.length + 1) = d := by omega
        have e2 : G.length - m.length = d + 1 := by omega
        rw [e1, e2, Nat.succ_mul]
        omega
  · have hwn : work = [] := by
      cases work with
      | nil => rfl
      | cons a l => simp [strsV] at hz
    subst hwn
    have hk : known G ids = true := known_iff.2 fun i hi => by
      rcases hids i hi with h1 | h1
      · exact (hanc i h1).2
      · cases h1
    refine ⟨hE, ?_⟩
    rw [if_pos hk]
    refine ⟨_, m, rfl, Nat.le_refl _, hm, fun k => ⟨fun h => (hanc k h).1, fun h => ?_⟩⟩
    induction h with
    | base h => exact (hids _ h).resolve_right (by simp)
    | step _ hp ih => exact (hpar _ ih _ hp).resolve_right (by simp)

/-! ### 3. keys -/
theorem ext_1 {P : Program} {a : Value} {w : World} {k : Value → World → Prop} (hk : k a w) : Does P (Instr.extract (.tuple #[a]) 0) w k := does_extract (x := a) rfl hk
theorem ext_2a {P : Program} {a b : Value} {w : World} {k : Value → World → Prop} (hk : k a w) : Does P (Instr.extract (.tuple #[a, b]) 0) w k := does_extract (x := a) rfl hk
theorem ext_2b {P : Program} {a b : Value} {w : World} {k : Value → World → Prop} (hk : k b w) : Does P (Instr.extract (.tuple #[a, b]) 1) w k := does_extract (x := b) rfl hk
theorem ext_3a {P : Program} {a b c : Value} {w : World} {k : Value → World → Prop} (hk : k a w) : Does P (Instr.extract (.tuple #[a, b, c]) 0) w k := does_extract (x := a) rfl hk
/-- a nil map's keys are none -/
theorem run_range_nil {P : Program} {t kt et : TypeId} (ht : P.underlying t = some (.map kt et)) (w : World) : (Instr.range t (.map none)).run P w = .ok (.pointer (some ⟨w.heap.size, 0, none⟩)) (w.alloc (.mapIter none 0 #[] 0)) := by
  simp [Instr.range, run_underlying ht, Result.andThen]
theorem run_next_nil {P : Program} {r : Nat} {w : World} {a b : Nat} {s : Array Nat} (h : w.heap[r]? = some (.mapIter none a s b)) (ty : TypeId) : (Instr.next (.pointer (some ⟨r, 0, none⟩)) false ty).run P w = .ok (.tuple #[.bool false]) w := by
  simp [Instr.next, getObj, Sem.run, h, Result.andThen]
structure KeysSt where
  lv : Value
  l : List ByteArray
  rest : KV
theorem own_ne_iter {w : World} {r b base : Nat} {l rest : KV} {e : TypeId} {v : Value} {xs : List Value} (h : Iter w r b l rest) (ho : Own w base e v xs) : some r ≠ v.ownBlock := by
  rcases ho.2 with ⟨rfl, _⟩ | ⟨g, cap, cur, rfl, _, hg, _⟩
  · simp [Value.ownBlock]
  · intro e
    simp only [Value.ownBlock, Option.some.injEq] at e
    subst e
    obtain ⟨_, es, c, s, seen, c0, h1, h2, h3, h4, _⟩ := h
    rw [h4] at hg
    cases hg
theorem keys_spec {w : World} {b : Nat} {m : KV} (h : MapAt w b m) (hl : m.length ≤ 1099511627776) :
    Call Try.prog 61 #[.map (some b)] w fun v w' => Own w' w.heap.size 9 v (strsV (sortS (keysOf m))) ∧ Ext w w' := by
  apply vc61
  unfold V61
  obtain ⟨o, hrun, hit⟩ := h.range u_ints
  refine does_of hrun ?_
  have hE0 : Ext w (w.alloc o) := (Ext.refl w).alloc _
  refine rounds1 (σ := KeysSt) (fun s => s.lv) (fun s W => Own W w.heap.size 9 s.lv (strsV s.l) ∧ Ext w W ∧ Iter W w.heap.size b m s.rest ∧ (s.l ++ keysOf s.rest).Perm (keysOf m)) (fun s _ => s.rest.length)
    ⟨_, [], m⟩ rfl ⟨Own.nil _ _ _, hE0, hit, by simp⟩ ?_
  rintro next ⟨lv, l, rest⟩ w1 ⟨ho, hE, hi, hp⟩ hnext _
  simp only at ho hE hi hp ⊢
  have hlen : l.length + rest.length = m.length := by simpa [keysOf] using hp.length_eq
  rcases hi.next (P := Try.prog) 0 with ⟨rfl, hrun⟩ | ⟨k, v, rest', w2, hperm, _, hrun, hi2, hmod, hsz, hent⟩
  · refine does_of hrun (ext_1 ?_)
    rw [condP_false]
    have hll : l.length ≤ 1099511627776 := by simp at hlen; omega
    refine (sort_spec l.length (Nat.le_refl _) ho.row hll).mono fun v w2 ⟨h1, h2⟩ => ⟨?_, hE.trans h2⟩
    have : sortS l = sortS (keysOf m) := sortS_of (sortS_sorted _) ((sortS_perm l).trans (by simpa [keysOf] using hp))
    rw [← this]
    exact h1.mono hE.size
  · refine does_of hrun (ext_3a ?_)
    rw [condP_true]
    refine does_of hent (ext_2a ?_)
    have hE2 : Ext w w2 := Mod.ext hE hmod (fun k hk => by cases hk; exact Nat.le_refl _)
    have ho2 : Own w2 w.heap.size 9 lv (strsV l) := hmod.own ho (by
      have := own_ne_iter hi ho
      exact .inr fun e => this e.symm)
    refine does_of (run_buildSlice1 u_strs sz_str zero_str rfl rfl w2) ?_
    have hA : Ext w2 (w2.alloc (.cells #[.string k] 9)) := (Ext.refl w2).alloc _
    have rN : Row (w2.alloc (.cells #[.string k] 9)) (.slice (some ⟨w2.heap.size, 0, none⟩) 1 1) (strsV [k]) := (own_single (base := 0) 9 (.string k) (Nat.zero_le _)).row
    have hpl : rest.length = rest'.length + 1 := by simpa using hperm.length_eq
    refine (ho2.ext hA).append u_strs info_str rfl rN (strsV_one _) (by simp; omega) (by omega) (hE2.trans hA).size fun v3 w3 ho3 hg3 _ => ?_
    have hi3 := hi2.ext hA
    refine hnext ⟨v3, l ++ [k], rest'⟩ _ w3 rfl ⟨by rw [strsV_append]; exact ho3, (hE2.trans hA).grownOwn (ho2.ext hA) hg3, hi3.mod hg3 (own_ne_iter hi3 (ho2.ext hA)) ?_, ?_⟩ (by simp only; omega)
    · rcases own_ne_map hi3.map (ho2.ext hA) with e | e
      · rw [e]; simp
      · exact fun h => e h.symm
    · refine List.Perm.trans ?_ hp
      rw [List.append_assoc]
      refine List.Perm.append_left l ?_
      have := hperm.map (·.1)
      simpa [keysOf] using this.symm
theorem keys_nil {w : World} : Call Try.prog 61 #[.map none] w fun v w' => Own w' w.heap.size 9 v (strsV []) ∧ Ext w w' := by
  apply vc61
  unfold V61
  refine does_of (run_range_nil u_ints w) ?_
  have hE0 : Ext w (w.alloc (.mapIter none 0 #[] 0)) := (Ext.refl w).alloc _
  have hh : (w.alloc (.mapIter none 0 #[] 0)).heap[w.heap.size]? = some (.mapIter none 0 #[] 0) := (MapKept.heap_alloc w _).1
  refine rounds1 (σ := Unit) (fun _ => .slice none 0 0) (fun _ W => W = w.alloc (.mapIter none 0 #[] 0)) (fun _ _ => 0) () rfl rfl ?_
  rintro next _ _ rfl hnext _
  refine does_of (run_next_nil hh 0) (ext_1 ?_)
  rw [condP_false]
  exact (sort_spec 0 (xs := []) (by simp) (Row.nil _ _ _) (by simp)).mono fun v w2 ⟨h1, h2⟩ => ⟨h1.mono hE0.size, hE0.trans h2⟩
end Go.Proofs.Ytcncgkkilgmphaa
