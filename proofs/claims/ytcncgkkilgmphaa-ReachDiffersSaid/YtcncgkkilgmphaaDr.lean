/-
  Regions that draw their order. Two rules for 'DrawP': 'draw_quiet' (each operation yields one value in every world of a class: one walk in the order of the text), 'draw_phi' (each operation has a fact of its own about its value, kept by what the others do).
-/
import Derived.Test.YtcncgkkilgmphaaVc
import Derived.Deep.Quiet
set_option linter.unusedVariables false
set_option linter.unusedSimpArgs false
namespace Go.Proofs.Ytcncgkkilgmphaa
open Go

/-! ### 1. quiet -/
def Quiet (P : Program) (C : World → Prop) (s : Sem Value) (w : World) (k : Value → World → Prop) : Prop := ∃ v, (∀ W, C W → s.run P W = .ok v W) ∧ k v w
def QCall (P : Program) (C : World → Prop) (f : FuncId) (args : Array Value) (w : World) (k : Value → World → Prop) : Prop := ∃ v, (∀ W, C W → Call P f args W fun u W' => u = v ∧ C W') ∧ k v w
def QCallV (P : Program) (C : World → Prop) (fv : Value) (args : Array Value) (w : World) (k : Value → World → Prop) : Prop :=
  ∃ f first cap, fv = .func (.func f) first cap ∧ QCall P C f (first ++ args ++ cap) w k
def viewQ (P : Program) (C : World → Prop) (V : OpV) (w : World) (k : Value → World → Prop) : Prop :=
  match V with
  | .val v => k v w
  | .sem s => Quiet P C s w k
  | .call f args => QCall P C f args w k
  | .callv fv args => QCallV P C fv args w k
  | .pick c a b => PickP c a b fun v => k v w
  | .nil v => NilCheckP v fun v => k v w
  | _ => False
def quS (P : Program) (n : Nat) (C : World → Prop) (K : (Nat → Value) → World → Prop) : List Oper → (Nat → Value) → World → Prop
  | [], e, w => K e w
  | o :: l, e, w => viewQ P C (viewOp n e o) w fun v w => quS P n C K l (put n e o.dst v) w
def quE (P : Program) (n : Nat) (all : List Oper) (C : World → Prop) (K : (Nat → Value) → World → Prop) : Nat → List Oper → (Nat → Value) → World → Prop
  | _, [], e, w => K e w
  | 0, _ :: _, _, _ => False
  | m + 1, o :: rest, e, w =>
    match o.guard with
    | none => viewQ P C (viewOp n e o) w fun v w => quE P n all C K m rest (put n e o.dst v) w
    | some (j, b) =>
      cond ((dsts (o :: rest.takeWhile (sameG j b))).any fun d => match (all[j]?).bind (·.dst) with | some t => Nat.beq t d | none => true) False
        (JoinP (grpOuts all (o :: rest.takeWhile (sameG j b)) (rest.dropWhile (sameG j b))).length
          (fun J => GuardP (yieldE n e all j) b
            (quS P n C (fun e' w' => app _ J ((grpOuts all (o :: rest.takeWhile (sameG j b)) (rest.dropWhile (sameG j b))).map e') w') (o :: rest.takeWhile (sameG j b)) e w)
            (app _ J ((grpOuts all (o :: rest.takeWhile (sameG j b)) (rest.dropWhile (sameG j b))).map (undefs n (o :: rest.takeWhile (sameG j b)) e)) w))
          (cur _ fun vals w' => ∀ junk : Nat → Value, quE P n all C K m (rest.dropWhile (sameG j b)) (setL (grpOuts all (o :: rest.takeWhile (sameG j b)) (rest.dropWhile (sameG j b))) vals (hav (dsts (o :: rest.takeWhile (sameG j b))) junk e)) w'))

theorem viewQ_quiet {P : Program} {C : World → Prop} {n : Nat} {e : Nat → Value} {o : Oper} {w : World} {k : Value → World → Prop} {L : Act → Prop} (h : viewQ P C (viewOp n e o) w k)
    (hL : ∀ v, k v w → L (actOf n (put n e o.dst v))) : o.quiet P (actOf n e) C L := by
  have hx : execOp (ev n e) o = (viewOp n e o).run := by
    refine exec_view n e o fun v hv => ?_
    rw [hv] at h
    simp only [viewQ] at h
    unfold NilCheckP at h
    split at h
    · exact ⟨_, rfl⟩
    · exact h.elim
  unfold Oper.quiet Oper.quietAt
  rw [actOf_eval, hx]
  generalize viewOp n e o = V at h
  cases V with
  | val v => exact ⟨v, fun W _ => ⟨rfl, rfl⟩, by rw [actOf_put]; exact hL v h⟩
  | sem s =>
    obtain ⟨v, hr, hk⟩ := h
    refine ⟨v, fun W hW => ?_, by rw [actOf_put]; exact hL v hk⟩
    simp only [OpV.run, Sem.run_bind, hr W hW, Result.andThen_ok, Sem.run_pure]
    exact ⟨rfl, rfl⟩
  | unit s => exact h.elim
  | call f args =>
    obtain ⟨v, hr, hk⟩ := h
    refine ⟨v, fun W hW => ?_, by rw [actOf_put]; exact hL v hk⟩
    have hc := hr W hW
    simp only [OpV.run, run_callFunc hc.1]
    exact ⟨rfl, hc.2.mono fun e w' ⟨u, he, hu, hC⟩ => ⟨by rw [he, hu], hC⟩⟩
  | callv fv args =>
    obtain ⟨f, first, cap, rfl, v, hr, hk⟩ := h
    refine ⟨v, fun W hW => ?_, by rw [actOf_put]; exact hL v hk⟩
    have hc := hr W hW
    have hcf := run_callFunc hc.1 (first ++ args ++ cap) W
    have : (OpV.callv (.func (.func f) first cap) args).run.run P W = .ok (.enter f (first ++ args ++ cap)) W := by simpa [OpV.run, Deferred.ofValue, invoke] using hcf
    rw [this]
    exact ⟨rfl, hc.2.mono fun e w' ⟨u, he, hu, hC⟩ => ⟨by rw [he, hu], hC⟩⟩
  | pick c a b =>
    obtain ⟨t, rfl, hk⟩ := h
    refine ⟨_, fun W _ => ?_, by rw [actOf_put]; exact hL _ hk⟩
    simp [OpV.run, asBool, Oper.quietUpon]
  | nil v =>
    simp only [viewQ] at h
    unfold NilCheckP at h
    split at h
    · exact ⟨_, fun W _ => ⟨rfl, rfl⟩, by rw [actOf_put]; exact hL _ h⟩
    · exact h.elim
  | raw s => exact h.elim
theorem quGrp_run {P : Program} {n : Nat} {all rest : List Oper} {C : World → Prop} {Q : Act → Prop} {K : (Nat → Value) → World → Prop} {j : Nat} {b : Bool} {w : World} :
    ∀ (g : List Oper) (e : Nat → Value), (∀ o ∈ g, o.guard = some (j, b)) → (∀ o ∈ g, ∀ t, (all[j]?).bind (·.dst) = some t → o.dst ≠ some t) → yieldE n e all j = .bool b →
      quS P n C K g e w → (∀ e', (∀ i, i ∉ dsts g → e' i = e i) → K e' w → wpQuiet P all.toArray C Q rest (actOf n e')) → wpQuiet P all.toArray C Q (g ++ rest) (actOf n e)
  | [], e, _, _, _, h, hK => hK e (fun _ _ => rfl) h
  | o :: g, e, hg, hd, hy, h, hK => by
    simp only [List.cons_append]
    unfold wpQuiet
    rw [if_pos ((wanted_iff (hg o (by simp))).2 hy)]
    refine viewQ_quiet h fun v hk => ?_
    refine quGrp_run g _ (fun o ho => hg o (by simp [ho])) (fun o ho => hd o (by simp [ho])) ?_ hk ?_
    · rw [yieldE_put (hd o (by simp))]; exact hy
    · intro e' hf hk'
      refine hK e' (fun i hi => ?_) hk'
      rw [hf i (dsts_cons hi).2, put_frame (dsts_cons hi).1]
theorem quGrp_skip {P : Program} {n : Nat} {all rest : List Oper} {C : World → Prop} {Q : Act → Prop} {j : Nat} {b : Bool} :
    ∀ (g : List Oper) (e : Nat → Value), (∀ o ∈ g, o.guard = some (j, b)) → (∀ o ∈ g, ∀ t, (all[j]?).bind (·.dst) = some t → o.dst ≠ some t) → yieldE n e all j ≠ .bool b →
      ((∀ i, i ∉ dsts g → undefs n g e i = e i) → wpQuiet P all.toArray C Q rest (actOf n (undefs n g e))) → wpQuiet P all.toArray C Q (g ++ rest) (actOf n e)
  | [], e, _, _, _, hK => hK (fun _ _ => rfl)
  | o :: g, e, hg, hd, hy, hK => by
    simp only [List.cons_append]
    unfold wpQuiet
    rw [if_neg (fun h => hy ((wanted_iff (hg o (by simp))).1 h)), actOf_put]
    refine quGrp_skip g _ (fun o ho => hg o (by simp [ho])) (fun o ho => hd o (by simp [ho])) ?_ fun hf => hK fun i hi => ?_
    · rw [yieldE_put (hd o (by simp))]; exact hy
    · show undefs n g (put n e o.dst undef) i = e i
      rw [hf i (dsts_cons hi).2, put_frame (dsts_cons hi).1]
theorem quE_sound {P : Program} {n : Nat} {all : List Oper} {C : World → Prop} {K : (Nat → Value) → World → Prop} {Q : Act → Prop} {w : World} :
    ∀ (m : Nat) (l : List Oper) (e : Nat → Value), quE P n all C K m l e w → (∀ e', (∀ i, i ∉ dsts l → e' i = e i) → K e' w → Q (actOf n e')) → wpQuiet P all.toArray C Q l (actOf n e)
  | _, [], e, h, hQ => by
    have h' : K e w := by cases ‹Nat› <;> exact h
    exact hQ e (fun _ _ => rfl) h'
  | 0, o :: rest, e, h, hQ => h.elim
  | m + 1, o :: rest, e, h, hQ => by
    unfold quE at h
    split at h
    · rename_i hg
      unfold wpQuiet
      rw [if_pos (wanted_none hg)]
      refine viewQ_quiet h fun v hk => ?_
      refine quE_sound m rest _ hk fun e' hf hk' => hQ e' (fun i hi => ?_) hk'
      rw [hf i (dsts_cons hi).2, put_frame (dsts_cons hi).1]
    · rename_i j b hg
      generalize hgr : o :: rest.takeWhile (sameG j b) = g at h
      generalize hre : rest.dropWhile (sameG j b) = r at h
      have hl : o :: rest = g ++ r := by rw [← hgr, ← hre]; simp [List.takeWhile_append_dropWhile]
      cases hc : (dsts g).any fun d => match (all[j]?).bind (·.dst) with | some t => Nat.beq t d | none => true with
      | true => rw [hc] at h; exact h.elim
      | false =>
        rw [hc] at h
        simp only [cond_false, JoinP] at h
        have hgg : ∀ o' ∈ g, o'.guard = some (j, b) := by
          intro o' ho'
          rw [← hgr] at ho'
          rcases List.mem_cons.1 ho' with rfl | ho'
          · exact hg
          · exact sameG_spec (mem_takeWhile ho')
        have hgd : ∀ o' ∈ g, ∀ t, (all[j]?).bind (·.dst) = some t → o'.dst ≠ some t := by
          intro o' ho' t ht hdt
          rw [List.any_eq_false] at hc
          have := hc t (by unfold dsts; simp only [List.mem_filterMap]; exact ⟨o', ho', hdt⟩)
          simp only [ht] at this
          simp at this
        rw [hl]
        have frame2 : ∀ (e' : Nat → Value), (∀ i, i ∉ dsts g → e' i = e i) → app _ (cur (grpOuts all g r).length fun vals w' => ∀ junk : Nat → Value, quE P n all C K m r (setL (grpOuts all g r) vals (hav (dsts g) junk e)) w') ((grpOuts all g r).map e') w →
            wpQuiet P all.toArray C Q r (actOf n e') := by
          intro e' hf hj
          rw [app_cur _ _ _ _ (by simp)] at hj
          have := hj e'
          rw [setL_hav _ _ _ _ hf] at this
          refine quE_sound m r e' this fun e'' hf' hk => hQ e'' (fun i hi => ?_) hk
          rw [hl, mem_dsts_append] at hi
          rw [hf' i (fun hm => hi (.inr hm)), hf i (fun hm => hi (.inl hm))]
        by_cases hy : yieldE n e all j = .bool b
        · exact quGrp_run g e hgg hgd hy (h.1 hy) fun e' hf hk => frame2 e' hf hk
        · exact quGrp_skip g e hgg hgd hy fun hf => frame2 _ hf (h.2 hy)
/-- The quiet rule. -/
theorem draw_quiet {P : Program} {n : Nat} {ops : List Oper} {ins : List Nat} {vals : List Value} {outs : List Nat} {J : VF outs.length} {w : World} (C : World → Prop)
    (hB : Region.lexB .any ops.toArray = true) (hC : C { w with drawn := w.drawn + 1 })
    (h : ∀ junk : Nat → Value, quE P n ops C (fun e _ => ∀ W, C W → app _ J (outs.map e) W) ops.length ops (setL ins vals junk) w) : DrawP P n ops ins vals outs J w := by
  intro junk
  have h1 := quE_sound (Q := fun a => ∃ e', a = actOf n e' ∧ (∀ i, i ∉ dsts ops → e' i = setL ins vals junk i) ∧ ∀ W, C W → app _ J (outs.map e') W) _ _ _ (h junk) fun e' hf hk => ⟨e', rfl, hf, hk⟩
  simp only [Region.lexB, Bool.and_eq_true] at hB
  have h2 := wpAnyQ_lex (P := P) (C := C) (md := .any) hB.1 ops 0 (Array.replicate ops.length false) (actOf n (setL ins vals junk)) (by simp) (by simpa using hB.2) h1
  exact wpAny_of_quiet (fun a w' hw' ⟨e', ha, hf, hk⟩ => ⟨rfl, e', ha, hf, hk w' hw'⟩) _ _ _ _ hC h2

/-! ### 2. facts -/
def tmpOf : Operand → Option Nat
  | .tmp t => some t
  | _ => none
def opSlots (o : Oper) : List Nat := o.op.operands.toList.filterMap tmpOf
def guardSlot (ops : List Oper) (o : Oper) : List Nat :=
  match o.guard with
  | some (j, _) => (match (ops[j]?).bind (·.dst) with | some d => [d] | none => [])
  | none => []
theorem ev_congr {n : Nat} {e e' : Nat → Value} {x : Operand} (h : ∀ t, tmpOf x = some t → e t = e' t) : ev n e x = ev n e' x := by
  cases x with
  | tmp t => simp only [ev]; rw [h t rfl]
  | _ => rfl
theorem viewOp_congr {n : Nat} {e e' : Nat → Value} {o : Oper} (h : ∀ t, t ∈ opSlots o → e t = e' t) (hr : ∀ s, viewOp n e o ≠ .raw s) : viewOp n e o = viewOp n e' o := by
  have hx : ∀ x, x ∈ o.op.operands.toList → ev n e x = ev n e' x := fun x hx => ev_congr fun t ht => h t (by unfold opSlots; exact List.mem_filterMap.2 ⟨x, hx, ht⟩)
  have hm : ∀ l : List Operand, (∀ x, x ∈ l → x ∈ o.op.operands.toList) → l.map (ev n e) = l.map (ev n e') := fun l hl => List.map_congr_left fun x hxl => hx x (hl x hxl)
  have hp : ∀ l : List (Nat × Operand), (∀ p, p ∈ l → p.2 ∈ o.op.operands.toList) → l.map (fun p => (p.1, ev n e p.2)) = l.map (fun p => (p.1, ev n e' p.2)) := fun l hl => List.map_congr_left fun p hpl => by rw [hx p.2 (hl p hpl)]
  have hopt : ∀ a : Option Operand, (∀ x, a = some x → x ∈ o.op.operands.toList) → a.map (ev n e) = a.map (ev n e') := fun a ha => by
    cases a with
    | none => rfl
    | some x => simp only [Option.map_some]; rw [hx x (ha x rfl)]
  generalize hV : viewOp n e o = V at hr
  unfold viewOp at hV ⊢
  split at hV <;> rename_i hop <;> subst hV <;> simp only [hop, Op.operands, Call.operands] at hx hm hp hopt ⊢
  case h_39 => exact absurd rfl (hr _)
  case h_6 | h_7 => rw [hp _ (fun p hpl => by simp only [List.mem_map]; exact ⟨p, hpl, rfl⟩)]
  case h_16 => rw [hm _ (fun x hxl => by simp at hxl ⊢; exact .inl hxl), hm _ (fun x hxl => by simp at hxl ⊢; exact .inr hxl)]
  case h_19 x a b c =>
    rw [hx x (by simp), hopt a (fun y hy => by subst hy; simp), hopt b (fun y hy => by subst hy; simp), hopt c (fun y hy => by subst hy; simp)]
  case h_30 | h_32 | h_33 | h_34 | h_35 | h_36 | h_37 | h_38 => rw [hm _ (fun x hxl => by simp at hxl ⊢; first | exact hxl | exact .inr hxl)]
  case h_31 x args ts hnf => rw [hx x (by simp), hm _ (fun x hxl => by simp at hxl ⊢; exact .inr hxl)]
  all_goals (repeat rw [hx _ (by simp)])

def isAfter (ops : List Oper) (i j : Nat) : Bool :=
  match ops[i]? with
  | some o => o.after.toList.any fun e => Region.binds .any e && Nat.beq e.on j
  | none => false
def srcGo (ops : List Oper) (d : Nat) : List Edge → Option Nat
  | [] => none
  | e :: l => cond (Region.binds .any e && (match (ops[e.on]?).bind (·.dst) with | some t => Nat.beq t d | none => false)) (some e.on) (srcGo ops d l)
def srcOf (ops : List Oper) (o : Oper) (d : Nat) : Option Nat := srcGo ops d o.after.toList
def dedup : List Nat → List Nat
  | [] => []
  | x :: l => cond (l.elem x) (dedup l) (x :: dedup l)
def rslots (ops : List Oper) (o : Oper) : List (Nat × Nat) := (dedup (opSlots o ++ guardSlot ops o)).filterMap fun d => (srcOf ops o d).map fun j => (j, d)
def loGo (ops : List Oper) (i : Nat) : List Nat → Nat → Nat → Nat
  | [], _, acc => acc
  | t :: T, k, acc => loGo ops i T (k + 1) (cond (isAfter ops i t) (k + 1) acc)
def loOf (ops : List Oper) (T : List Nat) (i : Nat) : Nat := loGo ops i T 0 0
def hiGo (ops : List Oper) (i : Nat) : List Nat → Nat → Nat
  | [], k => k
  | t :: T, k => cond (isAfter ops t i) k (hiGo ops i T (k + 1))
def hiOf (ops : List Oper) (T : List Nat) (i : Nat) : Nat := hiGo ops i T 0
def idxGo (i : Nat) : List Nat → Nat → Option Nat
  | [], _ => none
  | t :: T, k => cond (Nat.beq t i) (some k) (idxGo i T (k + 1))
theorem viewE_mono {P : Program} {V : OpV} {w : World} {k k' : Value → World → Prop} (h : viewE P V w k) (hk : ∀ v w', k v w' → k' v w') : viewE P V w k' := by
  cases V with
  | val v => exact hk _ _ h
  | sem s => exact Does.mono h hk
  | unit s => exact Does.mono h fun _ w' => hk _ w'
  | call f args => exact Call.mono h hk
  | callv fv args => obtain ⟨f, a, b, h1, h2⟩ := h; exact ⟨f, a, b, h1, Call.mono h2 hk⟩
  | pick c a b => obtain ⟨t, h1, h2⟩ := h; exact ⟨t, h1, hk _ _ h2⟩
  | nil v =>
    simp only [viewE] at h ⊢
    unfold NilCheckP at h ⊢
    split at h
    · exact hk _ _ h
    · exact h.elim
  | raw s => obtain ⟨v, w', h1, h2⟩ := h; exact ⟨v, w', h1, hk _ _ h2⟩
def allV : (k : Nat) → (List Value → Prop) → Prop
  | 0, f => f []
  | k + 1, f => ∀ v, allV k fun l => f (v :: l)
def impF (F : Nat → Value → World → Prop) : List (Nat × Nat) → List Value → World → Prop → Prop
  | p :: rs, v :: vs, W, G => F p.1 v W → impF F rs vs W G
  | _, _, _, G => G
def keepGo (ops : List Oper) (T : List Nat) (k i : Nat) (F : Nat → Value → World → Prop) (W W' : World) : Nat → List Oper → Prop
  | _, [] => True
  | j, _ :: l => cond (Nat.ble (loOf ops T j) k && !Nat.beq j i) ((∀ v, F j v W → F j v W') ∧ keepGo ops T k i F W W' (j + 1) l) (keepGo ops T k i F W W' (j + 1) l)
def phiGoal (P : Program) (n : Nat) (ops : List Oper) (post : Value → World → Prop) (skip : Prop) (o : Oper) (env : Nat → Value) (W : World) : Prop :=
  match o.guard with
  | none => viewE P (viewOp n env o) W post
  | some (j, b) => GuardP (yieldE n env ops j) b (viewE P (viewOp n env o) W post) skip
def phiOb (P : Program) (n : Nat) (ops : List Oper) (ins : List Nat) (vals : List Value) (T : List Nat) (E S : World → World → Prop) (C : Nat → World → Prop) (F : Nat → Value → World → Prop) (w1 : World) (junk : Nat → Value) (i : Nat) (o : Oper) : Prop :=
  allV (rslots ops o).length fun vs =>
    match idxGo i T 0 with
    | some k => ∀ W, S w1 W → C k W → impF F (rslots ops o) vs W (phiGoal P n ops (fun v W' => S W W' ∧ C (k + 1) W' ∧ F i v W' ∧ keepGo ops T k i F W W' 0 ops) (C (k + 1) W ∧ F i undef W) o (setL ((rslots ops o).map (·.2)) vs (setL ins vals junk)) W)
    | none => ∀ k, loOf ops T i ≤ k → k ≤ hiOf ops T i → ∀ W, S w1 W → C k W → impF F (rslots ops o) vs W (phiGoal P n ops (fun v W' => E W W' ∧ C k W' ∧ F i v W') (C k W ∧ F i undef W) o (setL ((rslots ops o).map (·.2)) vs (setL ins vals junk)) W)
def phiAll (P : Program) (n : Nat) (ops : List Oper) (ins : List Nat) (vals : List Value) (T : List Nat) (E S : World → World → Prop) (C : Nat → World → Prop) (F : Nat → Value → World → Prop) (w1 : World) (junk : Nat → Value) : Nat → List Oper → Prop
  | _, [] => True
  | i, o :: l => phiOb P n ops ins vals T E S C F w1 junk i o ∧ phiAll P n ops ins vals T E S C F w1 junk (i + 1) l
def writerGo (d : Nat) : List Oper → Nat → Nat
  | [], k => k
  | o :: l, k => match o.dst with
    | some t => cond (Nat.beq t d) k (writerGo d l (k + 1))
    | none => writerGo d l (k + 1)
def writers (ops : List Oper) (outs : List Nat) : List (Nat × Nat) := outs.map fun d => (writerGo d ops 0, d)
def isRaw : OpV → Bool
  | .raw _ => true
  | _ => false
theorem isRaw_eq (n n' : Nat) (e e' : Nat → Value) (o : Oper) : isRaw (viewOp n e o) = isRaw (viewOp n' e' o) := by
  unfold viewOp
  generalize o.op = op
  cases op with
  | binOp op t x y yt => cases op <;> rfl
  | makeMap t r => cases r <;> rfl
  | call c =>
    obtain ⟨callee, args, ts⟩ := c
    cases callee with
    | value f => cases f <;> rfl
    | invoke _ _ => rfl
    | builtin b => cases b <;> rfl
  | _ => rfl
def notRaw (o : Oper) : Bool := !isRaw (viewOp 0 (fun _ => undef) o)
theorem notRaw_spec {o : Oper} (h : notRaw o = true) (n : Nat) (e : Nat → Value) (s : Sem Next) : viewOp n e o ≠ .raw s := by
  intro hv
  have := isRaw_eq 0 n (fun _ => undef) e o
  unfold notRaw at h
  rw [this, hv] at h
  cases h
def okOne (n : Nat) (ops : List Oper) (ins : List Nat) (i : Nat) (o : Oper) : Bool :=
  notRaw o && (match o.dst with | some d => Nat.blt d n | none => true) &&
  (o.after.toList.all fun e => !Region.binds .any e || Nat.blt e.on i) &&
  ((opSlots o ++ guardSlot ops o).all fun d => match srcOf ops o d with
    | some _ => true
    | none => ins.elem d && ((List.range ops.length).all fun j => match (ops[j]?).bind (·.dst) with | some t => !Nat.beq t d || isAfter ops j i | none => true))
def okGo (n : Nat) (ops : List Oper) (ins : List Nat) : Nat → List Oper → Bool
  | _, [] => true
  | i, o :: l => okOne n ops ins i o && okGo n ops ins (i + 1) l
def nodupB : List Nat → Bool
  | [] => true
  | x :: l => !l.elem x && nodupB l
def chainB (ops : List Oper) : List Nat → Bool
  | t :: u :: T => isAfter ops u t && chainB ops (u :: T)
  | _ => true
def okAll (n : Nat) (ops : List Oper) (ins outs T : List Nat) : Bool :=
  okGo n ops ins 0 ops && nodupB (dsts ops) && chainB ops T && (T.all fun t => Nat.blt t ops.length) && (outs.all fun d => (dsts ops).elem d) && nodupB T

theorem allV_spec : ∀ (k : Nat) {f : List Value → Prop} (l : List Value), l.length = k → allV k f → f l
  | 0, f, l, hl, h => by
    obtain rfl := List.eq_nil_of_length_eq_zero hl
    exact h
  | k + 1, f, [], hl, h => by simp at hl
  | k + 1, f, v :: l, hl, h => allV_spec k (f := fun l => f (v :: l)) l (by simpa using hl) (h v)
theorem impF_spec {F : Nat → Value → World → Prop} {W : World} {G : Prop} {e : Nat → Value} : ∀ (rs : List (Nat × Nat)), impF F rs (rs.map fun p => e p.2) W G → (∀ p, p ∈ rs → F p.1 (e p.2) W) → G
  | [], h, _ => h
  | p :: rs, h, hf => impF_spec rs (h (hf p (by simp))) fun q hq => hf q (by simp [hq])
theorem phiAll_spec {P : Program} {n : Nat} {ops : List Oper} {ins : List Nat} {vals : List Value} {T : List Nat} {E S : World → World → Prop} {C : Nat → World → Prop} {F : Nat → Value → World → Prop} {w1 : World} {junk : Nat → Value} :
    ∀ (l : List Oper) (i : Nat), phiAll P n ops ins vals T E S C F w1 junk i l → ∀ j o, l[j]? = some o → phiOb P n ops ins vals T E S C F w1 junk (i + j) o
  | [], i, h, j, o, hj => by simp at hj
  | x :: l, i, h, 0, o, hj => by
    simp at hj
    subst hj
    exact h.1
  | x :: l, i, h, j + 1, o, hj => by
    have := phiAll_spec l (i + 1) h.2 j o (by simpa using hj)
    rwa [show i + 1 + j = i + (j + 1) by omega] at this
theorem okGo_spec {n : Nat} {ops : List Oper} {ins : List Nat} : ∀ (l : List Oper) (i : Nat), okGo n ops ins i l = true → ∀ j o, l[j]? = some o → okOne n ops ins (i + j) o = true
  | [], i, h, j, o, hj => by simp at hj
  | x :: l, i, h, 0, o, hj => by
    simp at hj
    subst hj
    unfold okGo at h
    simp only [Bool.and_eq_true] at h
    exact h.1
  | x :: l, i, h, j + 1, o, hj => by
    unfold okGo at h
    simp only [Bool.and_eq_true] at h
    have := okGo_spec l (i + 1) h.2 j o (by simpa using hj)
    rwa [show i + 1 + j = i + (j + 1) by omega] at this
theorem beq_eq {a b : Nat} (h : Nat.beq a b = true) : a = b := Nat.eq_of_beq_eq_true h
theorem beq_refl' (a : Nat) : Nat.beq a a = true := by simp
theorem nodupB_spec : ∀ {l : List Nat}, nodupB l = true → l.Nodup
  | [], _ => List.nodup_nil
  | x :: l, h => by
    unfold nodupB at h
    simp only [Bool.and_eq_true, Bool.not_eq_true'] at h
    exact List.nodup_cons.2 ⟨(fun hm => by have := List.elem_eq_true_of_mem hm; rw [h.1] at this; cases this), nodupB_spec h.2⟩
theorem dsts_inj : ∀ {ops : List Oper}, (dsts ops).Nodup → ∀ {i j : Nat} {o o' : Oper} {d : Nat}, ops[i]? = some o → ops[j]? = some o' → o.dst = some d → o'.dst = some d → i = j
  | [], _, i, j, o, o', d, hi, _, _, _ => by simp at hi
  | x :: l, h, 0, 0, o, o', d, hi, hj, h1, h2 => rfl
  | x :: l, h, 0, j + 1, o, o', d, hi, hj, h1, h2 => by
    simp at hi hj
    subst hi
    have : d ∈ dsts l := by unfold dsts; exact List.mem_filterMap.2 ⟨o', List.mem_of_getElem? hj, h2⟩
    have hd : dsts (x :: l) = d :: dsts l := by unfold dsts; simp [List.filterMap_cons, h1]
    rw [hd] at h
    exact absurd this (List.nodup_cons.1 h).1
  | x :: l, h, i + 1, 0, o, o', d, hi, hj, h1, h2 => by
    simp at hi hj
    subst hj
    have : d ∈ dsts l := by unfold dsts; exact List.mem_filterMap.2 ⟨o, List.mem_of_getElem? hi, h1⟩
    have hd : dsts (x :: l) = d :: dsts l := by unfold dsts; simp [List.filterMap_cons, h2]
    rw [hd] at h
    exact absurd this (List.nodup_cons.1 h).1
  | x :: l, h, i + 1, j + 1, o, o', d, hi, hj, h1, h2 => by
    have hl : (dsts l).Nodup := by
      unfold dsts at h ⊢
      rw [List.filterMap_cons] at h
      split at h
      · exact h
      · exact (List.nodup_cons.1 h).2
    have := dsts_inj hl (i := i) (j := j) (by simpa using hi) (by simpa using hj) h1 h2
    omega
theorem srcGo_spec {ops : List Oper} {d : Nat} : ∀ {l : List Edge} {j : Nat}, srcGo ops d l = some j → ∃ e, e ∈ l ∧ Region.binds .any e = true ∧ e.on = j ∧ (ops[j]?).bind (·.dst) = some d
  | [], j, h => by simp [srcGo] at h
  | e :: l, j, h => by
    unfold srcGo at h
    cases hc : (Region.binds .any e && (match (ops[e.on]?).bind (·.dst) with | some t => Nat.beq t d | none => false)) with
    | true =>
      rw [hc] at h
      simp only [cond_true, Option.some.injEq] at h
      subst h
      simp only [Bool.and_eq_true] at hc
      refine ⟨e, by simp, hc.1, rfl, ?_⟩
      have h2 := hc.2
      split at h2
      · rename_i t ht
        rw [ht, beq_eq h2]
      · cases h2
    | false =>
      rw [hc] at h
      obtain ⟨e', h1, h2⟩ := srcGo_spec h
      exact ⟨e', by simp [h1], h2⟩
theorem mem_dedup : ∀ {l : List Nat} {x : Nat}, x ∈ l → x ∈ dedup l
  | y :: l, x, h => by
    unfold dedup
    cases hy : l.elem y with
    | true =>
      simp only [cond_true]
      rcases List.mem_cons.1 h with rfl | h
      · exact mem_dedup (List.mem_of_elem_eq_true hy)
      · exact mem_dedup h
    | false =>
      simp only [cond_false]
      rcases List.mem_cons.1 h with rfl | h
      · simp
      · simp [mem_dedup h]
theorem setL_at (e b : Nat → Value) : ∀ (ds : List Nat) (d : Nat), setL ds (ds.map e) b d = if d ∈ ds then e d else b d
  | [], d => by simp [setL]
  | x :: ds, d => by
    simp only [List.map_cons, setL, upd_apply, setL_at e b ds d]
    by_cases h : d = x
    · subst h; simp
    · simp [h]
theorem isAfter_spec {ops : List Oper} {i j : Nat} {o : Oper} (ho : ops[i]? = some o) : isAfter ops i j = true ↔ ∃ e, e ∈ o.after ∧ Region.binds .any e = true ∧ e.on = j := by
  unfold isAfter
  rw [ho]
  simp only [List.any_eq_true, Bool.and_eq_true, Array.mem_toList_iff]
  constructor
  · rintro ⟨e, h1, h2, h3⟩; exact ⟨e, h1, h2, beq_eq h3⟩
  · rintro ⟨e, h1, h2, rfl⟩; exact ⟨e, h1, h2, beq_refl' _⟩
theorem getD_set {listed : Array Bool} {i j : Nat} (hi : i < listed.size) : (listed.setIfInBounds i true).getD j false = if j = i then true else listed.getD j false := by
  by_cases h : j = i
  · subst h; simp [hi]
  · rw [if_neg h]
    by_cases hj : j < listed.size
    · simp [hj, Array.getElem_setIfInBounds, Ne.symm h, Array.getD]
    · simp [hj, Array.getD]
theorem getD_tf {listed : Array Bool} {j : Nat} (hj : j < listed.size) : listed.getD j true = listed.getD j false := by simp [Array.getD, hj]
theorem loGo_le {ops : List Oper} {i k : Nat} : ∀ (T : List Nat) (m acc : Nat), acc ≤ k → (∀ idx t, T[idx]? = some t → isAfter ops i t = true → m + idx + 1 ≤ k) → loGo ops i T m acc ≤ k
  | [], m, acc, ha, _ => ha
  | t :: T, m, acc, ha, h => by
    unfold loGo
    refine loGo_le T (m + 1) _ ?_ fun idx t' ht hi => ?_
    · cases hc : isAfter ops i t with
      | true => have := h 0 t rfl hc; simp only [cond_true]; omega
      | false => exact ha
    · have := h (idx + 1) t' (by simpa using ht) hi
      omega
theorem le_hiGo {ops : List Oper} {i k : Nat} : ∀ (T : List Nat) (m : Nat), k ≤ m + T.length → (∀ idx t, T[idx]? = some t → isAfter ops t i = true → k ≤ m + idx) → k ≤ hiGo ops i T m
  | [], m, hk, _ => by simpa [hiGo] using hk
  | t :: T, m, hk, h => by
    unfold hiGo
    cases hc : isAfter ops t i with
    | true => simpa using h 0 t rfl hc
    | false =>
      simp only [cond_false]
      refine le_hiGo T (m + 1) (by simp at hk; omega) fun idx t' ht hi => ?_
      have := h (idx + 1) t' (by simpa using ht) hi
      omega
theorem idxGo_some {i : Nat} : ∀ {T : List Nat} {m k : Nat}, idxGo i T m = some k → m ≤ k ∧ T[k - m]? = some i
  | [], m, k, h => by simp [idxGo] at h
  | t :: T, m, k, h => by
    unfold idxGo at h
    cases hc : Nat.beq t i with
    | true =>
      rw [hc] at h
      simp only [cond_true, Option.some.injEq] at h
      subst h
      simp [beq_eq hc]
    | false =>
      rw [hc] at h
      obtain ⟨h1, h2⟩ := idxGo_some (T := T) (m := m + 1) h
      refine ⟨by omega, ?_⟩
      rw [show k - m = (k - (m + 1)) + 1 by omega]
      simpa using h2
theorem idxGo_none {i : Nat} : ∀ {T : List Nat} {m : Nat}, idxGo i T m = none → ∀ t, t ∈ T → t ≠ i
  | [], m, h, t, ht => by simp at ht
  | u :: T, m, h, t, ht => by
    unfold idxGo at h
    cases hc : Nat.beq u i with
    | true => rw [hc] at h; simp at h
    | false =>
      rw [hc] at h
      rcases List.mem_cons.1 ht with rfl | ht
      · intro hti; subst hti; rw [beq_refl'] at hc; cases hc
      · exact idxGo_none (T := T) (m := m + 1) h t ht
theorem chainB_spec {ops : List Oper} : ∀ {T : List Nat}, chainB ops T = true → ∀ k t u, T[k]? = some t → T[k + 1]? = some u → isAfter ops u t = true
  | [], _, k, t, u, ht, _ => by simp at ht
  | [x], _, k, t, u, ht, hu => by simp at hu
  | x :: y :: T, h, 0, t, u, ht, hu => by
    simp at ht hu
    subst ht; subst hu
    unfold chainB at h
    simp only [Bool.and_eq_true] at h
    exact h.1
  | x :: y :: T, h, k + 1, t, u, ht, hu => by
    unfold chainB at h
    simp only [Bool.and_eq_true] at h
    exact chainB_spec h.2 k t u (by simpa using ht) (by simpa using hu)
theorem writerGo_spec {d : Nat} : ∀ {l : List Oper} {k : Nat}, d ∈ dsts l → ∃ j o, writerGo d l k = k + j ∧ l[j]? = some o ∧ o.dst = some d
  | [], k, h => by simp [dsts] at h
  | o :: l, k, h => by
    unfold writerGo
    cases hd : o.dst with
    | none =>
      have : d ∈ dsts l := by unfold dsts at h ⊢; simpa [List.filterMap_cons, hd] using h
      obtain ⟨j, o', h1, h2, h3⟩ := writerGo_spec (k := k + 1) this
      exact ⟨j + 1, o', by simp only [h1]; omega, by simpa using h2, h3⟩
    | some t =>
      cases ht : Nat.beq t d with
      | true => exact ⟨0, o, by simp [ht], rfl, by rw [hd, beq_eq ht]⟩
      | false =>
        have : d ∈ dsts l := by
          unfold dsts at h ⊢
          simp only [List.filterMap_cons, hd, List.mem_cons] at h
          rcases h with rfl | h
          · rw [beq_refl'] at ht; cases ht
          · exact h
        obtain ⟨j, o', h1, h2, h3⟩ := writerGo_spec (k := k + 1) this
        exact ⟨j + 1, o', by simp only [ht, cond_false, h1]; omega, by simpa using h2, h3⟩

structure PhiInv (n : Nat) (ops : List Oper) (ins : List Nat) (base : Nat → Value) (T : List Nat) (S : World → World → Prop) (C : Nat → World → Prop) (F : Nat → Value → World → Prop) (w1 : World) (listed : Array Bool) (e : Nat → Value) (W : World) (k : Nat) : Prop where
  sz : listed.size = ops.length
  cl : ∀ j o, ops[j]? = some o → listed.getD j false = true → ∀ ed, ed ∈ o.after → Region.binds .any ed = true → listed.getD ed.on false = true
  fr : ∀ s, s ∉ dsts ops → e s = base s
  inv : ∀ s, s ∈ ins → (∀ j o, ops[j]? = some o → o.dst = some s → listed.getD j false = false) → e s = base s
  facts : ∀ j o, ops[j]? = some o → listed.getD j false = true → ∀ d, o.dst = some d → F j (e d) W
  st : S w1 W
  kle : k ≤ T.length
  ph : ∀ idx t, T[idx]? = some t → (listed.getD t false = true ↔ idx < k)
  cls : C k W

section
variable {P : Program} {n : Nat} {ops : List Oper} {ins : List Nat} {vals : List Value} {T : List Nat} {E S : World → World → Prop} {C : Nat → World → Prop} {F : Nat → Value → World → Prop} {w1 : World} {junk : Nat → Value}

/-- the state behind an operation -/
theorem PhiInv.step {base : Nat → Value} {listed : Array Bool} {e : Nat → Value} {W W' : World} {k k' i : Nat} {o : Oper} {v : Value}
    (I : PhiInv n ops ins base T S C F w1 listed e W k) (hnd : (dsts ops).Nodup) (ho : ops[i]? = some o) (hlt : ∀ d, o.dst = some d → d < n) (hun : listed.getD i false = false)
    (hrdy : ∀ ed, ed ∈ o.after → Region.binds .any ed = true → listed.getD ed.on false = true)
    (ht : ∀ a b c, S a b → S b c → S a c) (hkeep : ∀ j oj, ops[j]? = some oj → j ≠ i → listed.getD j false = true → ∀ u, F j u W → F j u W') (hS : S W W') (hF : F i v W')
    (hk : k' ≤ T.length) (hph : ∀ idx t, T[idx]? = some t → ((t = i ∨ listed.getD t false = true) ↔ idx < k')) (hC : C k' W') :
    PhiInv n ops ins base T S C F w1 (listed.setIfInBounds i true) (put n e o.dst v) W' k' := by
  have hi : i < listed.size := by rw [I.sz]; exact (List.getElem?_eq_some_iff.1 ho).1
  have hg : ∀ j, (listed.setIfInBounds i true).getD j false = true ↔ j = i ∨ listed.getD j false = true := by
    intro j
    rw [getD_set hi]
    by_cases h : j = i <;> simp [h]
  refine ⟨by simp [I.sz], ?_, ?_, ?_, ?_, ht _ _ _ I.st hS, hk, ?_, hC⟩
  · intro j oj hj hl ed hed hb
    rw [hg] at hl ⊢
    rcases hl with rfl | hl
    · rw [ho] at hj; cases hj
      exact .inr (hrdy ed hed hb)
    · exact .inr (I.cl j oj hj hl ed hed hb)
  · intro s hs
    rw [put_frame (fun h => hs (by unfold dsts; exact List.mem_filterMap.2 ⟨o, List.mem_of_getElem? ho, h⟩))]
    exact I.fr s hs
  · intro s hs hw
    have h1 : o.dst ≠ some s := fun h => by
      have := hw i o ho h
      rw [(hg i).2 (.inl rfl)] at this
      cases this
    rw [put_frame h1]
    refine I.inv s hs fun j oj hj hd => ?_
    have := hw j oj hj hd
    cases hl : listed.getD j false
    · rfl
    · rw [(hg j).2 (.inr hl)] at this; cases this
  · intro j oj hj hl d hd
    rw [hg] at hl
    by_cases hji : j = i
    · subst hji
      rw [ho] at hj; cases hj
      rw [hd]
      have : put n e (some d) v d = v := by
        unfold put
        simp only [(blt_iff d n).2 (hlt d hd), cond_true, upd_apply, if_true]
      rw [this]
      exact hF
    · have hne : o.dst ≠ some d := fun h => hji (dsts_inj hnd hj ho hd h)
      rw [put_frame hne]
      rcases hl with h | hl
      · exact absurd h hji
      · exact hkeep j oj hj hji hl _ (I.facts j oj hj hl d hd)
  · intro idx t hidx
    rw [hg]
    exact hph idx t hidx
theorem phi_all_listed {listed : Array Bool} (hsz : listed.size = ops.length) (hacyc : ∀ j o, ops[j]? = some o → ∀ ed, ed ∈ o.after → Region.binds .any ed = true → ed.on < j)
    (hr : Region.ready .any ops.toArray listed = []) : ∀ j, j < ops.length → listed.getD j false = true := by
  intro j
  induction j using Nat.strongRecOn with
  | _ j ih =>
    intro hj
    cases hl : listed.getD j false with
    | true => rfl
    | false =>
      exfalso
      have : j ∈ Region.ready .any ops.toArray listed := by
        rw [mem_ready]
        refine ⟨by rw [getD_tf (by omega)]; exact hl, ops[j], by simp [hj], fun ed hed hb => ?_⟩
        have h1 := hacyc j ops[j] (by simp [hj]) ed hed hb
        exact ih ed.on h1 (by omega)
      rw [hr] at this
      cases this

theorem keepGo_spec {k i : Nat} {W W' : World} : ∀ (l : List Oper) (m : Nat), keepGo ops T k i F W W' m l → ∀ j, m ≤ j → j < m + l.length → loOf ops T j ≤ k → j ≠ i → ∀ v, F j v W → F j v W'
  | [], m, _, j, h1, h2, _, _ => by simp at h2; omega
  | o :: l, m, h, j, h1, h2, h3, h4 => by
    unfold keepGo at h
    cases hc : (Nat.ble (loOf ops T m) k && !Nat.beq m i) with
    | true =>
      rw [hc] at h
      by_cases hjm : j = m
      · subst hjm; exact h.1
      · exact keepGo_spec l (m + 1) h.2 j (by omega) (by simp at h2; omega) h3 h4
    | false =>
      rw [hc] at h
      by_cases hjm : j = m
      · exfalso
        subst hjm
        have h5 : Nat.ble (loOf ops T j) k = true := Nat.ble_eq_true_of_le h3
        have h6 : Nat.beq j i = false := by
          cases hh : Nat.beq j i
          · rfl
          · exact absurd (beq_eq hh) h4
        rw [h5, h6] at hc
        cases hc
      · exact keepGo_spec l (m + 1) h j (by omega) (by simp at h2; omega) h3 h4
theorem phi_walk {outs : List Nat} {J : VF outs.length} {base : Nat → Value} (hok : okAll n ops ins outs T = true) (hr : ∀ W, S W W) (ht : ∀ a b c, S a b → S b c → S a c) (hES : ∀ W W', E W W' → S W W') (hst : ∀ i v W W', E W W' → F i v W → F i v W')
    (hbase : base = setL ins vals junk) (hall : phiAll P n ops ins vals T E S C F w1 junk 0 ops)
    (hfin : allV outs.length fun vs => ∀ W, S w1 W → C T.length W → impF F (writers ops outs) vs W (app _ J vs W)) :
    ∀ (fuel : Nat) (listed : Array Bool) (e : Nat → Value) (W : World) (k : Nat) (L : List Nat), L.length ≤ fuel → (∀ j, j < ops.length → listed.getD j false = false → j ∈ L) → PhiInv n ops ins base T S C F w1 listed e W k →
      wpAny P .any ops.toArray (fun x a w' => x = .normal ∧ ∃ e', a = actOf n e' ∧ (∀ i, i ∉ dsts ops → e' i = base i) ∧ app _ J (outs.map e') w') fuel listed (actOf n e) W := by
  unfold okAll at hok
  simp only [Bool.and_eq_true] at hok
  obtain ⟨⟨⟨⟨⟨hok1, hok2⟩, hok3⟩, hok4⟩, hok5⟩, hok6⟩ := hok
  have hnd := nodupB_spec hok2
  have hndT := nodupB_spec hok6
  have hone : ∀ j o, ops[j]? = some o → okOne n ops ins j o = true := fun j o hj => by simpa using okGo_spec ops 0 hok1 j o hj
  have hacyc : ∀ j o, ops[j]? = some o → ∀ ed, ed ∈ o.after → Region.binds .any ed = true → ed.on < j := by
    intro j o hj ed hed hb
    have h1 := hone j o hj
    unfold okOne at h1
    simp only [Bool.and_eq_true, List.all_eq_true] at h1
    have h2 := h1.1.2 ed (by simpa using hed)
    simp only [hb, Bool.not_true, Bool.false_or] at h2
    exact (blt_iff _ _).1 h2
  -- the end
  have hend : ∀ (listed : Array Bool) (e : Nat → Value) (W : World) (k : Nat), PhiInv n ops ins base T S C F w1 listed e W k → Region.ready .any ops.toArray listed = [] →
      Exit.normal = .normal ∧ ∃ e', actOf n e = actOf n e' ∧ (∀ i, i ∉ dsts ops → e' i = base i) ∧ app _ J (outs.map e') W := by
    intro listed e W k I h0
    have hl := phi_all_listed I.sz hacyc h0
    refine ⟨rfl, e, rfl, I.fr, ?_⟩
    have hkT : k = T.length := by
      rcases Nat.lt_or_ge k T.length with h | h
      · exfalso
        have h1 : T[k]? = some T[k] := by simp [h]
        have h2 : T[k] < ops.length := by
          rw [List.all_eq_true] at hok4
          exact (blt_iff _ _).1 (hok4 _ (List.getElem_mem h))
        have := (I.ph k _ h1).1 (hl _ h2)
        omega
      · have := I.kle; omega
    subst hkT
    have h1 := allV_spec _ (outs.map e) (by simp) hfin W I.st I.cls
    have h2 : outs.map e = (writers ops outs).map fun p => e p.2 := by simp [writers, Function.comp_def]
    rw [h2] at h1 ⊢
    refine impF_spec _ h1 fun p hp => ?_
    unfold writers at hp
    rw [List.mem_map] at hp
    obtain ⟨d, hd, rfl⟩ := hp
    rw [List.all_eq_true] at hok5
    obtain ⟨j, o, h3, h4, h5⟩ := writerGo_spec (l := ops) (k := 0) (List.mem_of_elem_eq_true (hok5 d hd))
    simp only [h3, Nat.zero_add]
    exact I.facts j o h4 (hl j (List.getElem?_eq_some_iff.1 h4).1) d h5
  intro fuel
  induction fuel with
  | zero =>
    intro listed e W k L hL hcov I
    have h0 : Region.ready .any ops.toArray listed = [] := by
      cases hr' : Region.ready .any ops.toArray listed with
      | nil => rfl
      | cons j l =>
        exfalso
        have hj : j ∈ Region.ready .any ops.toArray listed := by rw [hr']; simp
        rw [mem_ready] at hj
        obtain ⟨h1, o, h2, _⟩ := hj
        have h2' : ops[j]? = some o := by simpa using h2
        have hjl := (List.getElem?_eq_some_iff.1 h2').1
        have := hcov j hjl (by rw [← getD_tf (by rw [I.sz]; exact hjl)]; exact h1)
        have hL0 : L = [] := List.eq_nil_of_length_eq_zero (by omega)
        rw [hL0] at this
        cases this
    exact ⟨h0, hend listed e W k I h0⟩
  | succ fuel ih =>
    intro listed e W k L hL hcov I
    refine ⟨hend listed e W k I, fun i hi => ?_⟩
    rw [mem_ready] at hi
    obtain ⟨hi1, o, hi2, hi3⟩ := hi
    have ho : ops[i]? = some o := by simpa using hi2
    have hil := (List.getElem?_eq_some_iff.1 ho).1
    have hun : listed.getD i false = false := by rw [← getD_tf (by rw [I.sz]; exact hil)]; exact hi1
    have hon := hone i o ho
    unfold okOne at hon
    simp only [Bool.and_eq_true, List.all_eq_true] at hon
    obtain ⟨⟨⟨hraw, hdn⟩, hac⟩, hop⟩ := hon
    have hlt : ∀ d, o.dst = some d → d < n := fun d hd => by rw [hd] at hdn; exact (blt_iff _ _).1 hdn
    have hsz := I.sz
    -- operands
    have henv : ∀ d, d ∈ opSlots o ++ guardSlot ops o → setL ((rslots ops o).map (·.2)) ((rslots ops o).map fun p => e p.2) (setL ins vals junk) d = e d := by
      intro d hd
      have h1 : ((rslots ops o).map fun p => e p.2) = ((rslots ops o).map (·.2)).map e := by simp [Function.comp_def]
      rw [h1, setL_at]
      split
      · rfl
      · rename_i hnot
        have h2 := hop d hd
        cases hs : srcOf ops o d with
        | some j =>
          exfalso
          refine hnot ?_
          unfold rslots
          rw [List.mem_map]
          exact ⟨(j, d), List.mem_filterMap.2 ⟨d, mem_dedup hd, by simp [hs]⟩, rfl⟩
        | none =>
          rw [hs] at h2
          simp only [Bool.and_eq_true, List.all_eq_true] at h2
          rw [← hbase]
          refine (I.inv d (List.mem_of_elem_eq_true h2.1) fun j oj hj hdj => ?_).symm
          have h3 := h2.2 j (by rw [List.mem_range]; exact (List.getElem?_eq_some_iff.1 hj).1)
          rw [hj] at h3
          simp only [Option.bind_some, hdj, beq_refl', Bool.not_true, Bool.false_or] at h3
          cases hl : listed.getD j false with
          | false => rfl
          | true =>
            obtain ⟨ed, h4, h5, h6⟩ := (isAfter_spec hj).1 h3
            have := I.cl j oj hj hl ed h4 h5
            rw [h6, hun] at this
            cases this
    have hfacts : ∀ p, p ∈ rslots ops o → F p.1 (e p.2) W := by
      intro p hp
      unfold rslots at hp
      rw [List.mem_filterMap] at hp
      obtain ⟨d, hd, hpd⟩ := hp
      cases hs : srcOf ops o d with
      | none => rw [hs] at hpd; cases hpd
      | some j =>
        rw [hs] at hpd
        simp only [Option.map_some, Option.some.injEq] at hpd
        subst hpd
        obtain ⟨ed, h1, h2, h3, h4⟩ := srcGo_spec hs
        have hlj := hi3 ed (by simpa using h1) h2
        rw [h3] at hlj
        cases hoj : ops[j]? with
        | none => rw [hoj] at h4; cases h4
        | some oj =>
          rw [hoj] at h4
          exact I.facts j oj hoj hlj d h4
    have hob := phiAll_spec ops 0 hall i o ho
    rw [Nat.zero_add] at hob
    unfold phiOb at hob
    have hob2 := allV_spec _ ((rslots ops o).map fun p => e p.2) (by simp) hob
    -- the phase
    have hlok : ∀ j oj, ops[j]? = some oj → listed.getD j false = true → loOf ops T j ≤ k := by
      intro j oj hj hl
      refine loGo_le T 0 0 (Nat.zero_le _) fun idx t hidx ha => ?_
      obtain ⟨ed, h4, h5, h6⟩ := (isAfter_spec hj).1 ha
      have h7 := I.cl j oj hj hl ed h4 h5
      rw [h6] at h7
      have := (I.ph idx t hidx).1 h7
      omega
    have hgoal : ∃ k', k' ≤ T.length ∧ (∀ idx t, T[idx]? = some t → ((t = i ∨ listed.getD t false = true) ↔ idx < k')) ∧
        ∃ post skip, (∀ v W', post v W' → S W W' ∧ C k' W' ∧ F i v W' ∧ ∀ j oj, ops[j]? = some oj → j ≠ i → listed.getD j false = true → ∀ u, F j u W → F j u W') ∧ (skip → C k' W ∧ F i undef W) ∧
        (phiGoal P n ops post skip o (setL ((rslots ops o).map (·.2)) ((rslots ops o).map fun p => e p.2) (setL ins vals junk)) W) := by
      cases hx : idxGo i T 0 with
      | some k0 =>
        rw [hx] at hob2
        obtain ⟨_, hTk⟩ := idxGo_some hx
        simp only [Nat.sub_zero] at hTk
        have hk0 : k0 < T.length := (List.getElem?_eq_some_iff.1 hTk).1
        have hge : k ≤ k0 := by
          rcases Nat.lt_or_ge k0 k with h | h
          · have := (I.ph k0 i hTk).2 h
            rw [hun] at this
            cases this
          · exact h
        have hle : k0 ≤ k := by
          rcases Nat.eq_zero_or_pos k0 with h | h
          · omega
          · have h1 : T[k0 - 1]? = some T[k0 - 1] := by rw [List.getElem?_eq_getElem (by omega)]
            have h2 := chainB_spec hok3 (k0 - 1) _ i h1 (by rw [show k0 - 1 + 1 = k0 by omega]; exact hTk)
            obtain ⟨ed, h4, h5, h6⟩ := (isAfter_spec ho).1 h2
            have h7 := hi3 ed (by simpa using h4) h5
            rw [h6] at h7
            have := (I.ph (k0 - 1) _ h1).1 h7
            omega
        have hkk : k = k0 := by omega
        subst hkk
        refine ⟨k + 1, by omega, ?_, _, _, (fun v W' ⟨h1, h2, h3, h4⟩ => ⟨h1, h2, h3, fun j oj hj hji hl u => keepGo_spec ops 0 h4 j (Nat.zero_le _) (by simpa using (List.getElem?_eq_some_iff.1 hj).1) (hlok j oj hj hl) hji u⟩), id, impF_spec _ (hob2 W I.st I.cls) hfacts⟩
        intro idx t hidx
        by_cases hti : t = i
        · have hik : idx = k := by
            subst hti
            exact (List.getElem?_inj (List.getElem?_eq_some_iff.1 hidx).1 hndT).1 (by rw [hidx, hTk])
          simp [hti, hik]
        · have h1 := I.ph idx t hidx
          have hne : idx ≠ k := fun h => by
            subst h
            rw [hTk] at hidx
            cases hidx
            exact hti rfl
          simp only [hti, false_or, h1]
          omega
      | none =>
        rw [hx] at hob2
        have hnT := idxGo_none hx
        have hlo : loOf ops T i ≤ k := by
          refine loGo_le T 0 0 (Nat.zero_le _) fun idx t hidx ha => ?_
          obtain ⟨ed, h4, h5, h6⟩ := (isAfter_spec ho).1 ha
          have h7 := hi3 ed (by simpa using h4) h5
          rw [h6] at h7
          have := (I.ph idx t hidx).1 h7
          omega
        have hhi : k ≤ hiOf ops T i := by
          refine le_hiGo T 0 (by simpa using I.kle) fun idx t hidx ha => ?_
          rcases Nat.lt_or_ge idx k with h | h
          · exfalso
            have hlt' := (I.ph idx t hidx).2 h
            have htl : t < ops.length := by
              rw [List.all_eq_true] at hok4
              exact (blt_iff _ _).1 (hok4 _ (List.mem_of_getElem? hidx))
            have hot : ops[t]? = some ops[t] := by simp [htl]
            obtain ⟨ed, h4, h5, h6⟩ := (isAfter_spec hot).1 ha
            have := I.cl t _ hot hlt' ed h4 h5
            rw [h6, hun] at this
            cases this
          · omega
        refine ⟨k, I.kle, ?_, _, _, (fun v W' ⟨h1, h2, h3⟩ => ⟨hES _ _ h1, h2, h3, fun j oj hj hji hl u hF => hst _ _ _ _ h1 hF⟩), id, impF_spec _ (hob2 k hlo hhi W I.st I.cls) hfacts⟩
        intro idx t hidx
        have hne := hnT t (List.mem_of_getElem? hidx)
        simp only [hne, false_or]
        exact I.ph idx t hidx
    obtain ⟨k', hk', hph', post, skip, hpost, hskip, hg⟩ := hgoal
    have hnext : ∀ (v : Value) (W' : World), S W W' → C k' W' → F i v W' → (∀ j oj, ops[j]? = some oj → j ≠ i → listed.getD j false = true → ∀ u, F j u W → F j u W') → wpAny P .any ops.toArray (fun x a w' => x = .normal ∧ ∃ e', a = actOf n e' ∧ (∀ i, i ∉ dsts ops → e' i = base i) ∧ app _ J (outs.map e') w') fuel (listed.setIfInBounds i true) (actOf n (put n e o.dst v)) W' := by
      intro v W' hS hC hF hkeep
      have I' := I.step hnd ho hlt hun (fun ed hed hb => hi3 ed hed hb) ht hkeep hS hF hk' hph' hC
      have hiL : i ∈ L := hcov i hil hun
      refine ih _ _ W' k' (L.erase i) (by rw [List.length_erase_of_mem hiL]; omega) (fun j hj hlj => ?_) I'
      rw [getD_set (by omega)] at hlj
      by_cases hji : j = i
      · rw [if_pos hji] at hlj; cases hlj
      · rw [if_neg hji] at hlj
        exact (List.mem_erase_of_ne hji).2 (hcov j hj hlj)
    have hnr : ∀ (e' : Nat → Value) (s : Sem Next), viewOp n e' o ≠ .raw s := notRaw_spec hraw n
    have hview : viewOp n (setL ((rslots ops o).map (·.2)) ((rslots ops o).map fun p => e p.2) (setL ins vals junk)) o = viewOp n e o :=
      viewOp_congr (fun t ht => henv t (by simp [ht])) (hnr _)
    unfold wpOp
    have ho' : ops.toArray[i]? = some o := by simpa using ho
    simp only [ho']
    unfold phiGoal at hg
    cases hgd : o.guard with
    | none =>
      rw [hgd] at hg
      simp only [hview] at hg
      rw [if_pos (wanted_none hgd)]
      refine .inl (opE_sound (K := fun e' W' => ∃ v, e' = put n e o.dst v ∧ post v W') (e := e) (o := o) ?_ _ _ ?_)
      · unfold opE
        exact viewE_mono hg fun v W' h => ⟨v, rfl, h⟩
      · rintro v W' ⟨v', hv', h⟩
        rw [actOf_put, hv']
        obtain ⟨h1, h2, h3, h4⟩ := hpost _ _ h
        exact hnext v' W' h1 h2 h3 h4
    | some g =>
      obtain ⟨j, b⟩ := g
      rw [hgd] at hg
      simp only [hview] at hg
      have hy : yieldE n (setL ((rslots ops o).map (·.2)) ((rslots ops o).map fun p => e p.2) (setL ins vals junk)) ops j = yieldE n e ops j := by
        unfold yieldE
        split
        · rename_i d hd
          rw [henv d (by unfold guardSlot; rw [hgd]; simp only [hd]; simp)]
        · rfl
      rw [hy] at hg
      by_cases hw : yieldE n e ops j = .bool b
      · rw [if_pos ((wanted_iff hgd).2 hw)]
        refine .inl (opE_sound (K := fun e' W' => ∃ v, e' = put n e o.dst v ∧ post v W') (e := e) (o := o) ?_ _ _ ?_)
        · unfold opE
          exact viewE_mono (hg.1 hw) fun v W' h => ⟨v, rfl, h⟩
        · rintro v W' ⟨v', hv', h⟩
          rw [actOf_put, hv']
          obtain ⟨h1, h2, h3, h4⟩ := hpost _ _ h
          exact hnext v' W' h1 h2 h3 h4
      · rw [if_neg (fun h => hw ((wanted_iff hgd).1 h)), actOf_put]
        obtain ⟨h1, h2⟩ := hskip (hg.2 hw)
        exact hnext undef W (hr W) h1 h2 fun _ _ _ _ _ _ h => h
/-- The rule of facts. -/
theorem draw_phi {outs : List Nat} {J : VF outs.length} {w : World} (T : List Nat) (E S : World → World → Prop) (C : Nat → World → Prop) (F : Nat → Value → World → Prop) (hok : okAll n ops ins outs T = true)
    (hr : ∀ W, S W W) (ht : ∀ a b c, S a b → S b c → S a c) (hES : ∀ W W', E W W' → S W W') (hst : ∀ i v W W', E W W' → F i v W → F i v W') (h0 : C 0 { w with drawn := w.drawn + 1 })
    (hall : ∀ junk : Nat → Value, phiAll P n ops ins vals T E S C F { w with drawn := w.drawn + 1 } junk 0 ops)
    (hfin : allV outs.length fun vs => ∀ W, S { w with drawn := w.drawn + 1 } W → C T.length W → impF F (writers ops outs) vs W (app _ J vs W)) : DrawP P n ops ins vals outs J w := by
  intro junk
  refine phi_walk hok hr ht hES hst rfl (hall junk) hfin _ _ _ _ 0 (List.range ops.length) (by simp) (fun j hj _ => by simpa using hj) ?_
  refine ⟨by simp, ?_, fun _ _ => rfl, fun _ _ _ => rfl, ?_, hr _, Nat.zero_le _, ?_, h0⟩
  · intro j o hj hl
    exfalso
    have := (List.getElem?_eq_some_iff.1 hj).1
    simp [Array.getD, this] at hl
  · intro j o hj hl
    exfalso
    have := (List.getElem?_eq_some_iff.1 hj).1
    simp [Array.getD, this] at hl
  · intro idx t hidx
    by_cases h : t < ops.length <;> simp [Array.getD, h]
end

def lkF : List (Nat × (Value → World → Prop)) → Nat → Value → World → Prop
  | [], _ => fun _ _ => True
  | p :: l, i => cond (Nat.beq p.1 i) p.2 (lkF l i)
def FSt (S : World → World → Prop) (f : Value → World → Prop) : Prop := ∀ v W W', S W W' → f v W → f v W'
theorem lkF_st {S : World → World → Prop} : ∀ {l : List (Nat × (Value → World → Prop))}, (∀ p, p ∈ l → FSt S p.2) → ∀ i v W W', S W W' → lkF l i v W → lkF l i v W'
  | [], _, i, v, W, W', _, _ => trivial
  | p :: l, h, i, v, W, W', hS, hF => by
    unfold lkF at hF ⊢
    cases hp : Nat.beq p.1 i with
    | true => rw [hp] at hF; exact h p (by simp) v W W' hS hF
    | false => rw [hp] at hF; exact lkF_st (fun q hq => h q (by simp [hq])) i v W W' hS hF
theorem FSt.const {S : World → World → Prop} (c : Value) : FSt S fun v _ => v = c := fun _ _ _ _ h => h
theorem FSt.pure {S : World → World → Prop} (p : Value → Prop) : FSt S fun v _ => p v := fun _ _ _ _ h => h
end Go.Proofs.Ytcncgkkilgmphaa
