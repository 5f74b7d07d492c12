/-
  Regions that draw their order, where facts may hang on how many of the turning operations are done: 'draw_phi2'. Own work, over XDr's proof.
-/
import Derived.Test.YtcncgkkilgmphaaSt
set_option linter.unusedVariables false
set_option linter.unusedSimpArgs false
namespace Go.Proofs.Ytcncgkkilgmphaa
open Go Go.RowKit

/-- the operand that an operation yielded -/
def knownOf : List (Nat × Nat) → List Value → Nat → Option Value
  | p :: rs, v :: vs, j => cond (Nat.beq p.1 j) (some v) (knownOf rs vs j)
  | _, _, _ => none
def keepOne (F : Nat → Nat → Value → World → Prop) (k j : Nat) (W W' : World) : Option Value → Prop
  | some v => F j k v W → F j (k + 1) v W'
  | none => ∀ v, F j k v W → F j (k + 1) v W'
def keepGo2 (ops : List Oper) (T : List Nat) (k i : Nat) (kn : Nat → Option Value) (F : Nat → Nat → Value → World → Prop) (W W' : World) : Nat → List Oper → Prop
  | _, [] => True
  | j, _ :: l => cond (Nat.ble (loOf ops T j) k && !Nat.beq j i) (keepOne F k j W W' (kn j) ∧ keepGo2 ops T k i kn F W W' (j + 1) l) (keepGo2 ops T k i kn F W W' (j + 1) l)
def phiOb2 (P : Program) (n : Nat) (ops : List Oper) (ins : List Nat) (vals : List Value) (T : List Nat) (E S : World → World → Prop) (C : Nat → World → Prop) (F : Nat → Nat → Value → World → Prop) (w1 : World) (junk : Nat → Value) (i : Nat) (o : Oper) : Prop :=
  allV (rslots ops o).length fun vs =>
    match idxGo i T 0 with
    | some k => ∀ W, S w1 W → C k W → impF (fun j => F j k) (rslots ops o) vs W (phiGoal P n ops (fun v W' => S W W' ∧ C (k + 1) W' ∧ F i (k + 1) v W' ∧ keepGo2 ops T k i (knownOf (rslots ops o) vs) F W W' 0 ops) False o (setL ((rslots ops o).map (·.2)) vs (setL ins vals junk)) W)
    | none => ∀ k, loOf ops T i ≤ k → k ≤ hiOf ops T i → ∀ W, S w1 W → C k W → impF (fun j => F j k) (rslots ops o) vs W (phiGoal P n ops (fun v W' => E W W' ∧ C k W' ∧ F i k v W') False o (setL ((rslots ops o).map (·.2)) vs (setL ins vals junk)) W)
def phiAll2 (P : Program) (n : Nat) (ops : List Oper) (ins : List Nat) (vals : List Value) (T : List Nat) (E S : World → World → Prop) (C : Nat → World → Prop) (F : Nat → Nat → Value → World → Prop) (w1 : World) (junk : Nat → Value) : Nat → List Oper → Prop
  | _, [] => True
  | i, o :: l => phiOb2 P n ops ins vals T E S C F w1 junk i o ∧ phiAll2 P n ops ins vals T E S C F w1 junk (i + 1) l
theorem phiAll2_spec {P : Program} {n : Nat} {ops : List Oper} {ins : List Nat} {vals : List Value} {T : List Nat} {E S : World → World → Prop} {C : Nat → World → Prop} {F : Nat → Nat → Value → World → Prop} {w1 : World} {junk : Nat → Value} :
    ∀ (l : List Oper) (i : Nat), phiAll2 P n ops ins vals T E S C F w1 junk i l → ∀ j o, l[j]? = some o → phiOb2 P n ops ins vals T E S C F w1 junk (i + j) o
  | [], i, h, j, o, hj => by simp at hj
  | x :: l, i, h, 0, o, hj => by
    simp at hj
    subst hj
    exact h.1
  | x :: l, i, h, j + 1, o, hj => by
    have := phiAll2_spec l (i + 1) h.2 j o (by simpa using hj)
    rwa [show i + 1 + j = i + (j + 1) by omega] at this
structure PhiInv2 (n : Nat) (ops : List Oper) (ins : List Nat) (base : Nat → Value) (T : List Nat) (S : World → World → Prop) (C : Nat → World → Prop) (F : Nat → Nat → Value → World → Prop) (w1 : World) (listed : Array Bool) (e : Nat → Value) (W : World) (k : Nat) : Prop where
  sz : listed.size = ops.length
  cl : ∀ j o, ops[j]? = some o → listed.getD j false = true → ∀ ed, ed ∈ o.after → Region.binds .any ed = true → listed.getD ed.on false = true
  fr : ∀ s, s ∉ dsts ops → e s = base s
  inv : ∀ s, s ∈ ins → (∀ j o, ops[j]? = some o → o.dst = some s → listed.getD j false = false) → e s = base s
  facts : ∀ j o, ops[j]? = some o → listed.getD j false = true → ∀ d, o.dst = some d → F j k (e d) W
  st : S w1 W
  kle : k ≤ T.length
  ph : ∀ idx t, T[idx]? = some t → (listed.getD t false = true ↔ idx < k)
  cls : C k W

section
variable {P : Program} {n : Nat} {ops : List Oper} {ins : List Nat} {vals : List Value} {T : List Nat} {E S : World → World → Prop} {C : Nat → World → Prop} {F : Nat → Nat → Value → World → Prop} {w1 : World} {junk : Nat → Value}

/-- the state behind an operation -/
theorem PhiInv2.step {base : Nat → Value} {listed : Array Bool} {e : Nat → Value} {W W' : World} {k k' i : Nat} {o : Oper} {v : Value}
    (I : PhiInv2 n ops ins base T S C F w1 listed e W k) (hnd : (dsts ops).Nodup) (ho : ops[i]? = some o) (hlt : ∀ d, o.dst = some d → d < n) (hun : listed.getD i false = false)
    (hrdy : ∀ ed, ed ∈ o.after → Region.binds .any ed = true → listed.getD ed.on false = true)
    (ht : ∀ a b c, S a b → S b c → S a c) (hkeep : ∀ j oj, ops[j]? = some oj → j ≠ i → listed.getD j false = true → ∀ d, oj.dst = some d → F j k (e d) W → F j k' (e d) W') (hS : S W W') (hF : F i k' v W')
    (hk : k' ≤ T.length) (hph : ∀ idx t, T[idx]? = some t → ((t = i ∨ listed.getD t false = true) ↔ idx < k')) (hC : C k' W') :
    PhiInv2 n ops ins base T S C F w1 (listed.setIfInBounds i true) (put n e o.dst v) W' k' := by
  have hi : i < listed.size := by rw [I.sz]; exact (List.getElem?_eq_some_iff.1 ho).1
  have hg : ∀ j, (listed.setIfInBounds i true).getD j false = true ↔ j = i ∨ listed.getD j false = true := by
    intro j
    rw [getD_set hi]
    by_cases h : j = i <;> simp [h]
  refine ⟨by simp [I.sz], ?_, ?_, ?_, ?_, ht _ _ _ I.st hS, hk, ?_, hC⟩
  · intro j oj hj hl ed hed hb
    rw [hg] at hl ⊢
    rcases hl with rfl | hl
    · rw [ho] at hj; cases hj
      exact .inr (hrdy ed hed hb)
    · exact .inr (I.cl j oj hj hl ed hed hb)
  · intro s hs
    rw [put_frame (fun h => hs (by unfold dsts; exact List.mem_filterMap.2 ⟨o, List.mem_of_getElem? ho, h⟩))]
    exact I.fr s hs
  · intro s hs hw
    have h1 : o.dst ≠ some s := fun h => by
      have := hw i o ho h
      rw [(hg i).2 (.inl rfl)] at this
      cases this
    rw [put_frame h1]
    refine I.inv s hs fun j oj hj hd => ?_
    have := hw j oj hj hd
    cases hl : listed.getD j false
    · rfl
    · rw [(hg j).2 (.inr hl)] at this; cases this
  · intro j oj hj hl d hd
    rw [hg] at hl
    by_cases hji : j = i
    · subst hji
      rw [ho] at hj; cases hj
      rw [hd]
      have : put n e (some d) v d = v := by
        unfold put
        simp only [(blt_iff d n).2 (hlt d hd), cond_true, upd_apply, if_true]
      rw [this]
      exact hF
    · have hne : o.dst ≠ some d := fun h => hji (dsts_inj hnd hj ho hd h)
      rw [put_frame hne]
      rcases hl with h | hl
      · exact absurd h hji
      · exact hkeep j oj hj hji hl d hd (I.facts j oj hj hl d hd)
  · intro idx t hidx
    rw [hg]
    exact hph idx t hidx
theorem knownOf_spec {e : Nat → Value} {j : Nat} {v : Value} : ∀ (rs : List (Nat × Nat)), knownOf rs (rs.map fun p => e p.2) j = some v → ∃ d, (j, d) ∈ rs ∧ v = e d
  | [], h => by simp [knownOf] at h
  | p :: rs, h => by
    unfold knownOf at h
    simp only [List.map_cons] at h
    cases hp : Nat.beq p.1 j with
    | true =>
      rw [hp] at h
      simp only [cond_true, Option.some.injEq] at h
      have := beq_eq hp
      subst this
      exact ⟨p.2, by simp, h.symm⟩
    | false =>
      rw [hp] at h
      obtain ⟨d, h1, h2⟩ := knownOf_spec rs h
      exact ⟨d, by simp [h1], h2⟩
theorem keepGo2_spec {k i : Nat} {W W' : World} {kn : Nat → Option Value} : ∀ (l : List Oper) (m : Nat), keepGo2 ops T k i kn F W W' m l → ∀ j, m ≤ j → j < m + l.length → loOf ops T j ≤ k → j ≠ i → keepOne F k j W W' (kn j)
  | [], m, _, j, h1, h2, _, _ => by simp at h2; omega
  | o :: l, m, h, j, h1, h2, h3, h4 => by
    unfold keepGo2 at h
    cases hc : (Nat.ble (loOf ops T m) k && !Nat.beq m i) with
    | true =>
      rw [hc] at h
      by_cases hjm : j = m
      · subst hjm; exact h.1
      · exact keepGo2_spec l (m + 1) h.2 j (by omega) (by simp at h2; omega) h3 h4
    | false =>
      rw [hc] at h
      by_cases hjm : j = m
      · exfalso
        subst hjm
        have h5 : Nat.ble (loOf ops T j) k = true := Nat.ble_eq_true_of_le h3
        have h6 : Nat.beq j i = false := by
          cases hh : Nat.beq j i
          · rfl
          · exact absurd (beq_eq hh) h4
        rw [h5, h6] at hc
        cases hc
      · exact keepGo2_spec l (m + 1) h j (by omega) (by simp at h2; omega) h3 h4
theorem phi_walk2 {outs : List Nat} {J : VF outs.length} {base : Nat → Value} (hok : okAll n ops ins outs T = true) (hr : ∀ W, S W W) (ht : ∀ a b c, S a b → S b c → S a c) (hES : ∀ W W', E W W' → S W W') (hst : ∀ i k v W W', E W W' → F i k v W → F i k v W')
    (hbase : base = setL ins vals junk) (hall : phiAll2 P n ops ins vals T E S C F w1 junk 0 ops)
    (hfin : allV outs.length fun vs => ∀ W, S w1 W → C T.length W → impF (fun j => F j T.length) (writers ops outs) vs W (app _ J vs W)) :
    ∀ (fuel : Nat) (listed : Array Bool) (e : Nat → Value) (W : World) (k : Nat) (L : List Nat), L.length ≤ fuel → (∀ j, j < ops.length → listed.getD j false = false → j ∈ L) → PhiInv2 n ops ins base T S C F w1 listed e W k →
      wpAny P .any ops.toArray (fun x a w' => x = .normal ∧ ∃ e', a = actOf n e' ∧ (∀ i, i ∉ dsts ops → e' i = base i) ∧ app _ J (outs.map e') w') fuel listed (actOf n e) W := by
  unfold okAll at hok
  simp only [Bool.and_eq_true] at hok
  obtain ⟨⟨⟨⟨⟨hok1, hok2⟩, hok3⟩, hok4⟩, hok5⟩, hok6⟩ := hok
  have hnd := nodupB_spec hok2
  have hndT := nodupB_spec hok6
  have hone : ∀ j o, ops[j]? = some o → okOne n ops ins j o = true := fun j o hj => by simpa using okGo_spec ops 0 hok1 j o hj
  have hacyc : ∀ j o, ops[j]? = some o → ∀ ed, ed ∈ o.after → Region.binds .any ed = true → ed.on < j := by
    intro j o hj ed hed hb
    have h1 := hone j o hj
    unfold okOne at h1
    simp only [Bool.and_eq_true, List.all_eq_true] at h1
    have h2 := h1.1.2 ed (by simpa using hed)
    simp only [hb, Bool.not_true, Bool.false_or] at h2
    exact (blt_iff _ _).1 h2
  -- the end
  have hend : ∀ (listed : Array Bool) (e : Nat → Value) (W : World) (k : Nat), PhiInv2 n ops ins base T S C F w1 listed e W k → Region.ready .any ops.toArray listed = [] →
      Exit.normal = .normal ∧ ∃ e', actOf n e = actOf n e' ∧ (∀ i, i ∉ dsts ops → e' i = base i) ∧ app _ J (outs.map e') W := by
    intro listed e W k I h0
    have hl := phi_all_listed I.sz hacyc h0
    refine ⟨rfl, e, rfl, I.fr, ?_⟩
    have hkT : k = T.length := by
      rcases Nat.lt_or_ge k T.length with h | h
      · exfalso
        have h1 : T[k]? = some T[k] := by simp [h]
        have h2 : T[k] < ops.length := by
          rw [List.all_eq_true] at hok4
          exact (blt_iff _ _).1 (hok4 _ (List.getElem_mem h))
        have := (I.ph k _ h1).1 (hl _ h2)
        omega
      · have := I.kle; omega
    subst hkT
    have h1 := allV_spec _ (outs.map e) (by simp) hfin W I.st I.cls
    have h2 : outs.map e = (writers ops outs).map fun p => e p.2 := by simp [writers, Function.comp_def]
    rw [h2] at h1 ⊢
    refine impF_spec _ h1 fun p hp => ?_
    unfold writers at hp
    rw [List.mem_map] at hp
    obtain ⟨d, hd, rfl⟩ := hp
    rw [List.all_eq_true] at hok5
    obtain ⟨j, o, h3, h4, h5⟩ := writerGo_spec (l := ops) (k := 0) (List.mem_of_elem_eq_true (hok5 d hd))
    simp only [h3, Nat.zero_add]
    exact I.facts j o h4 (hl j (List.getElem?_eq_some_iff.1 h4).1) d h5
  intro fuel
  induction fuel with
  | zero =>
    intro listed e W k L hL hcov I
    have h0 : Region.ready .any ops.toArray listed = [] := by
      cases hr' : Region.ready .any ops.toArray listed with
      | nil => rfl
      | cons j l =>
        exfalso
        have hj : j ∈ Region.ready .any ops.toArray listed := by rw [hr']; simp
        rw [mem_ready] at hj
        obtain ⟨h1, o, h2, _⟩ := hj
        have h2' : ops[j]? = some o := by simpa using h2
        have hjl := (List.getElem?_eq_some_iff.1 h2').1
        have := hcov j hjl (by rw [← getD_tf (by rw [I.sz]; exact hjl)]; exact h1)
        have hL0 : L = [] := List.eq_nil_of_length_eq_zero (by omega)
        rw [hL0] at this
        cases this
    exact ⟨h0, hend listed e W k I h0⟩
  | succ fuel ih =>
    intro listed e W k L hL hcov I
    refine ⟨hend listed e W k I, fun i hi => ?_⟩
    rw [mem_ready] at hi
    obtain ⟨hi1, o, hi2, hi3⟩ := hi
    have ho : ops[i]? = some o := by simpa using hi2
    have hil := (List.getElem?_eq_some_iff.1 ho).1
    have hun : listed.getD i false = false := by rw [← getD_tf (by rw [I.sz]; exact hil)]; exact hi1
    have hon := hone i o ho
    unfold okOne at hon
    simp only [Bool.and_eq_true, List.all_eq_true] at hon
    obtain ⟨⟨⟨hraw, hdn⟩, hac⟩, hop⟩ := hon
    have hlt : ∀ d, o.dst = some d → d < n := fun d hd => by rw [hd] at hdn; exact (blt_iff _ _).1 hdn
    have hsz := I.sz
    -- operands
    have henv : ∀ d, d ∈ opSlots o ++ guardSlot ops o → setL ((rslots ops o).map (·.2)) ((rslots ops o).map fun p => e p.2) (setL ins vals junk) d = e d := by
      intro d hd
      have h1 : ((rslots ops o).map fun p => e p.2) = ((rslots ops o).map (·.2)).map e := by simp [Function.comp_def]
      rw [h1, setL_at]
      split
      · rfl
      · rename_i hnot
        have h2 := hop d hd
        cases hs : srcOf ops o d with
        | some j =>
          exfalso
          refine hnot ?_
          unfold rslots
          rw [List.mem_map]
          exact ⟨(j, d), List.mem_filterMap.2 ⟨d, mem_dedup hd, by simp [hs]⟩, rfl⟩
        | none =>
          rw [hs] at h2
          simp only [Bool.and_eq_true, List.all_eq_true] at h2
          rw [← hbase]
          refine (I.inv d (List.mem_of_elem_eq_true h2.1) fun j oj hj hdj => ?_).symm
          have h3 := h2.2 j (by rw [List.mem_range]; exact (List.getElem?_eq_some_iff.1 hj).1)
          rw [hj] at h3
          simp only [Option.bind_some, hdj, beq_refl', Bool.not_true, Bool.false_or] at h3
          cases hl : listed.getD j false with
          | false => rfl
          | true =>
            obtain ⟨ed, h4, h5, h6⟩ := (isAfter_spec hj).1 h3
            have := I.cl j oj hj hl ed h4 h5
            rw [h6, hun] at this
            cases this
    have hfacts : ∀ p, p ∈ rslots ops o → F p.1 k (e p.2) W := by
      intro p hp
      unfold rslots at hp
      rw [List.mem_filterMap] at hp
      obtain ⟨d, hd, hpd⟩ := hp
      cases hs : srcOf ops o d with
      | none => rw [hs] at hpd; cases hpd
      | some j =>
        rw [hs] at hpd
        simp only [Option.map_some, Option.some.injEq] at hpd
        subst hpd
        obtain ⟨ed, h1, h2, h3, h4⟩ := srcGo_spec hs
        have hlj := hi3 ed (by simpa using h1) h2
        rw [h3] at hlj
        cases hoj : ops[j]? with
        | none => rw [hoj] at h4; cases h4
        | some oj =>
          rw [hoj] at h4
          exact I.facts j oj hoj hlj d h4
    have hob := phiAll2_spec ops 0 hall i o ho
    rw [Nat.zero_add] at hob
    unfold phiOb2 at hob
    have hob2 := allV_spec _ ((rslots ops o).map fun p => e p.2) (by simp) hob
    -- the phase
    have hlok : ∀ j oj, ops[j]? = some oj → listed.getD j false = true → loOf ops T j ≤ k := by
      intro j oj hj hl
      refine loGo_le T 0 0 (Nat.zero_le _) fun idx t hidx ha => ?_
      obtain ⟨ed, h4, h5, h6⟩ := (isAfter_spec hj).1 ha
      have h7 := I.cl j oj hj hl ed h4 h5
      rw [h6] at h7
      have := (I.ph idx t hidx).1 h7
      omega
    have hkn : ∀ {W' : World} (j : Nat) (oj : Oper), ops[j]? = some oj → ∀ d, oj.dst = some d → keepOne F k j W W' (knownOf (rslots ops o) ((rslots ops o).map fun p => e p.2) j) → F j k (e d) W → F j (k + 1) (e d) W' := by
      intro W' j oj hj d hd hk hF
      cases hq : knownOf (rslots ops o) ((rslots ops o).map fun p => e p.2) j with
      | none => rw [hq] at hk; exact hk _ hF
      | some v =>
        rw [hq] at hk
        obtain ⟨d', h1, h2⟩ := knownOf_spec _ hq
        unfold rslots at h1
        rw [List.mem_filterMap] at h1
        obtain ⟨d2, h3, h4⟩ := h1
        cases hs : srcOf ops o d2 with
        | none => rw [hs] at h4; cases h4
        | some j2 =>
          rw [hs] at h4
          simp only [Option.map_some, Option.some.injEq, Prod.mk.injEq] at h4
          obtain ⟨rfl, rfl⟩ := h4
          obtain ⟨ed, _, _, _, g4⟩ := srcGo_spec hs
          rw [hj] at g4
          simp only [Option.bind_some, hd, Option.some.injEq] at g4
          subst g4
          subst h2
          exact hk hF
    have hgoal : ∃ k', k' ≤ T.length ∧ (∀ idx t, T[idx]? = some t → ((t = i ∨ listed.getD t false = true) ↔ idx < k')) ∧
        ∃ post skip, (∀ v W', post v W' → S W W' ∧ C k' W' ∧ F i k' v W' ∧ ∀ j oj, ops[j]? = some oj → j ≠ i → listed.getD j false = true → ∀ d, oj.dst = some d → F j k (e d) W → F j k' (e d) W') ∧ (skip → False) ∧
        (phiGoal P n ops post skip o (setL ((rslots ops o).map (·.2)) ((rslots ops o).map fun p => e p.2) (setL ins vals junk)) W) := by
      cases hx : idxGo i T 0 with
      | some k0 =>
        rw [hx] at hob2
        obtain ⟨_, hTk⟩ := idxGo_some hx
        simp only [Nat.sub_zero] at hTk
        have hk0 : k0 < T.length := (List.getElem?_eq_some_iff.1 hTk).1
        have hge : k ≤ k0 := by
          rcases Nat.lt_or_ge k0 k with h | h
          · have := (I.ph k0 i hTk).2 h
            rw [hun] at this
            cases this
          · exact h
        have hle : k0 ≤ k := by
          rcases Nat.eq_zero_or_pos k0 with h | h
          · omega
          · have h1 : T[k0 - 1]? = some T[k0 - 1] := by rw [List.getElem?_eq_getElem (by omega)]
            have h2 := chainB_spec hok3 (k0 - 1) _ i h1 (by rw [show k0 - 1 + 1 = k0 by omega]; exact hTk)
            obtain ⟨ed, h4, h5, h6⟩ := (isAfter_spec ho).1 h2
            have h7 := hi3 ed (by simpa using h4) h5
            rw [h6] at h7
            have := (I.ph (k0 - 1) _ h1).1 h7
            omega
        have hkk : k = k0 := by omega
        subst hkk
        refine ⟨k + 1, by omega, ?_, _, _, (fun v W' ⟨h1, h2, h3, h4⟩ => ⟨h1, h2, h3, fun j oj hj hji hl d hd hF => hkn j oj hj d hd (keepGo2_spec ops 0 h4 j (Nat.zero_le _) (by simpa using (List.getElem?_eq_some_iff.1 hj).1) (hlok j oj hj hl) hji) hF⟩), id, impF_spec _ (hob2 W I.st I.cls) hfacts⟩
        intro idx t hidx
        by_cases hti : t = i
        · have hik : idx = k := by
            subst hti
            exact (List.getElem?_inj (List.getElem?_eq_some_iff.1 hidx).1 hndT).1 (by rw [hidx, hTk])
          simp [hti, hik]
        · have h1 := I.ph idx t hidx
          have hne : idx ≠ k := fun h => by
            subst h
            rw [hTk] at hidx
            cases hidx
            exact hti rfl
          simp only [hti, false_or, h1]
          omega
      | none =>
        rw [hx] at hob2
        have hnT := idxGo_none hx
        have hlo : loOf ops T i ≤ k := by
          refine loGo_le T 0 0 (Nat.zero_le _) fun idx t hidx ha => ?_
          obtain ⟨ed, h4, h5, h6⟩ := (isAfter_spec ho).1 ha
          have h7 := hi3 ed (by simpa using h4) h5
          rw [h6] at h7
          have := (I.ph idx t hidx).1 h7
          omega
        have hhi : k ≤ hiOf ops T i := by
          refine le_hiGo T 0 (by simpa using I.kle) fun idx t hidx ha => ?_
          rcases Nat.lt_or_ge idx k with h | h
          · exfalso
            have hlt' := (I.ph idx t hidx).2 h
            have htl : t < ops.length := by
              rw [List.all_eq_true] at hok4
              exact (blt_iff _ _).1 (hok4 _ (List.mem_of_getElem? hidx))
            have hot : ops[t]? = some ops[t] := by simp [htl]
            obtain ⟨ed, h4, h5, h6⟩ := (isAfter_spec hot).1 ha
            have := I.cl t _ hot hlt' ed h4 h5
            rw [h6, hun] at this
            cases this
          · omega
        refine ⟨k, I.kle, ?_, _, _, (fun v W' ⟨h1, h2, h3⟩ => ⟨hES _ _ h1, h2, h3, fun j oj hj hji hl d hd hF => hst _ _ _ _ _ h1 hF⟩), id, impF_spec _ (hob2 k hlo hhi W I.st I.cls) hfacts⟩
        intro idx t hidx
        have hne := hnT t (List.mem_of_getElem? hidx)
        simp only [hne, false_or]
        exact I.ph idx t hidx
    obtain ⟨k', hk', hph', post, skip, hpost, hskip, hg⟩ := hgoal
    have hnext : ∀ (v : Value) (W' : World), S W W' → C k' W' → F i k' v W' → (∀ j oj, ops[j]? = some oj → j ≠ i → listed.getD j false = true → ∀ d, oj.dst = some d → F j k (e d) W → F j k' (e d) W') → wpAny P .any ops.toArray (fun x a w' => x = .normal ∧ ∃ e', a = actOf n e' ∧ (∀ i, i ∉ dsts ops → e' i = base i) ∧ app _ J (outs.map e') w') fuel (listed.setIfInBounds i true) (actOf n (put n e o.dst v)) W' := by
      intro v W' hS hC hF hkeep
      have I' := I.step hnd ho hlt hun (fun ed hed hb => hi3 ed hed hb) ht hkeep hS hF hk' hph' hC
      have hiL : i ∈ L := hcov i hil hun
      refine ih _ _ W' k' (L.erase i) (by rw [List.length_erase_of_mem hiL]; omega) (fun j hj hlj => ?_) I'
      rw [getD_set (by omega)] at hlj
      by_cases hji : j = i
      · rw [if_pos hji] at hlj; cases hlj
      · rw [if_neg hji] at hlj
        exact (List.mem_erase_of_ne hji).2 (hcov j hj hlj)
    have hnr : ∀ (e' : Nat → Value) (s : Sem Next), viewOp n e' o ≠ .raw s := notRaw_spec hraw n
    have hview : viewOp n (setL ((rslots ops o).map (·.2)) ((rslots ops o).map fun p => e p.2) (setL ins vals junk)) o = viewOp n e o :=
      viewOp_congr (fun t ht => henv t (by simp [ht])) (hnr _)
    unfold wpOp
    have ho' : ops.toArray[i]? = some o := by simpa using ho
    simp only [ho']
    unfold phiGoal at hg
    cases hgd : o.guard with
    | none =>
      rw [hgd] at hg
      simp only [hview] at hg
      rw [if_pos (wanted_none hgd)]
      refine .inl (opE_sound (K := fun e' W' => ∃ v, e' = put n e o.dst v ∧ post v W') (e := e) (o := o) ?_ _ _ ?_)
      · unfold opE
        exact viewE_mono hg fun v W' h => ⟨v, rfl, h⟩
      · rintro v W' ⟨v', hv', h⟩
        rw [actOf_put, hv']
        obtain ⟨h1, h2, h3, h4⟩ := hpost _ _ h
        exact hnext v' W' h1 h2 h3 h4
    | some g =>
      obtain ⟨j, b⟩ := g
      rw [hgd] at hg
      simp only [hview] at hg
      have hy : yieldE n (setL ((rslots ops o).map (·.2)) ((rslots ops o).map fun p => e p.2) (setL ins vals junk)) ops j = yieldE n e ops j := by
        unfold yieldE
        split
        · rename_i d hd
          rw [henv d (by unfold guardSlot; rw [hgd]; simp only [hd]; simp)]
        · rfl
      rw [hy] at hg
      by_cases hw : yieldE n e ops j = .bool b
      · rw [if_pos ((wanted_iff hgd).2 hw)]
        refine .inl (opE_sound (K := fun e' W' => ∃ v, e' = put n e o.dst v ∧ post v W') (e := e) (o := o) ?_ _ _ ?_)
        · unfold opE
          exact viewE_mono (hg.1 hw) fun v W' h => ⟨v, rfl, h⟩
        · rintro v W' ⟨v', hv', h⟩
          rw [actOf_put, hv']
          obtain ⟨h1, h2, h3, h4⟩ := hpost _ _ h
          exact hnext v' W' h1 h2 h3 h4
      · rw [if_neg (fun h => hw ((wanted_iff hgd).1 h)), actOf_put]
        exact (hskip (hg.2 hw)).elim
/-- The rule of facts. -/
theorem draw_phi2 {outs : List Nat} {J : VF outs.length} {w : World} (T : List Nat) (E S : World → World → Prop) (C : Nat → World → Prop) (F : Nat → Nat → Value → World → Prop) (hok : okAll n ops ins outs T = true)
    (hr : ∀ W, S W W) (ht : ∀ a b c, S a b → S b c → S a c) (hES : ∀ W W', E W W' → S W W') (hst : ∀ i k v W W', E W W' → F i k v W → F i k v W') (h0 : C 0 { w with drawn := w.drawn + 1 })
    (hall : ∀ junk : Nat → Value, phiAll2 P n ops ins vals T E S C F { w with drawn := w.drawn + 1 } junk 0 ops)
    (hfin : allV outs.length fun vs => ∀ W, S { w with drawn := w.drawn + 1 } W → C T.length W → impF (fun j => F j T.length) (writers ops outs) vs W (app _ J vs W)) : DrawP P n ops ins vals outs J w := by
  intro junk
  refine phi_walk2 hok hr ht hES hst rfl (hall junk) hfin _ _ _ _ 0 (List.range ops.length) (by simp) (fun j hj _ => by simpa using hj) ?_
  refine ⟨by simp, ?_, fun _ _ => rfl, fun _ _ _ => rfl, ?_, hr _, Nat.zero_le _, ?_, h0⟩
  · intro j o hj hl
    exfalso
    have := (List.getElem?_eq_some_iff.1 hj).1
    simp [Array.getD, this] at hl
  · intro j o hj hl
    exfalso
    have := (List.getElem?_eq_some_iff.1 hj).1
    simp [Array.getD, this] at hl
  · intro idx t hidx
    by_cases h : t < ops.length <;> simp [Array.getD, h]
end

def lkF2 : List (Nat × (Nat → Value → World → Prop)) → Nat → Nat → Value → World → Prop
  | [], _ => fun _ _ _ => True
  | p :: l, i => cond (Nat.beq p.1 i) p.2 (lkF2 l i)
theorem lkF2_st {S : World → World → Prop} : ∀ {l : List (Nat × (Nat → Value → World → Prop))}, (∀ p, p ∈ l → ∀ k, FSt S (p.2 k)) → ∀ i k v W W', S W W' → lkF2 l i k v W → lkF2 l i k v W'
  | [], _, i, k, v, W, W', _, _ => trivial
  | p :: l, h, i, k, v, W, W', hS, hF => by
    unfold lkF2 at hF ⊢
    cases hp : Nat.beq p.1 i with
    | true => rw [hp] at hF; exact h p (by simp) k v W W' hS hF
    | false => rw [hp] at hF; exact lkF2_st (fun q hq => h q (by simp [hq])) i k v W W' hS hF

/-! ### the frame that all uses share: what lay in w0 stays -/
def At (w0 a b : World) : Prop := a.heap.size ≤ b.heap.size ∧ Ext w0 b
def SR (w0 a b : World) : Prop := a.heap.size ≤ b.heap.size ∧ (Ext w0 a → Ext w0 b)
theorem SR.refl (w0 W : World) : SR w0 W W := ⟨Nat.le_refl _, id⟩
theorem SR.trans {w0 a b c : World} (h : SR w0 a b) (k : SR w0 b c) : SR w0 a c := ⟨Nat.le_trans h.1 k.1, fun x => k.2 (h.2 x)⟩
theorem SR.ofExt {w0 a b : World} (h : Ext a b) : SR w0 a b := ⟨h.size, fun x => x.trans h⟩
theorem SR.of {w0 a b : World} (h : At w0 a b) : SR w0 a b := ⟨h.1, fun _ => h.2⟩
theorem SR.at {w0 w W : World} (hw : Ext w0 w) (h : SR w0 { w with drawn := w.drawn + 1 } W) : At w0 w W := ⟨h.1, h.2 (hw.trans (Ext.drawn w))⟩
/-- the worlds in which an operation may run -/
def Stg (w0 w : World) (C : Nat → World → Prop) (lo hi : Nat) (W : World) : Prop := At w0 w W ∧ ∃ k, lo ≤ k ∧ k ≤ hi ∧ C k W
theorem nilP_out {v : Value} {K : Value → Prop} (h : NilCheckP v K) : ∃ c, (∀ K' : Value → Prop, K' c → NilCheckP v K') ∧ K c := by
  unfold NilCheckP at h
  split at h
  · exact ⟨_, fun K' hk => hk, h⟩
  · exact h.elim
theorem pickP_out {v x y : Value} {K : Value → Prop} (h : PickP v x y K) : ∃ c, (∀ K' : Value → Prop, K' c → PickP v x y K') ∧ K c := by
  obtain ⟨b, hb, hk⟩ := h
  exact ⟨_, fun K' hk' => ⟨b, hb, hk'⟩, hk⟩
end Go.Proofs.Ytcncgkkilgmphaa
