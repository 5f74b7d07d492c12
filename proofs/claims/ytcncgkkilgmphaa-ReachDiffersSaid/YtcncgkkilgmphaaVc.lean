/-
  The generator of shallow conditions: 'wpE' turns a function's code, by computation, into a nested text of 'Does' (one operation), 'Call' (one call), 'CondP', 'JoinP', 'Rounds', 'DrawP'.
  'calls_of_wpE': what that text says, the machine's call does. Own work, over the kit's 'Code.wp'.
-/
import Derived.WalkKit
import Derived.Orders
import Derived.LoopN
import Derived.KernelRfl
set_option linter.unusedVariables false
set_option linter.unusedSimpArgs false
namespace Go.Proofs.Ytcncgkkilgmphaa
open Go

/-! ### frames as functions -/
def upd (e : Nat → Value) (d : Nat) (v : Value) : Nat → Value := fun i => cond (Nat.beq i d) v (e i)
def put (n : Nat) (e : Nat → Value) (d : Option Nat) (v : Value) : Nat → Value :=
  match d with
  | none => e
  | some d => cond (Nat.blt d n) (upd e d v) e
def ev (n : Nat) (e : Nat → Value) : Operand → Value
  | .tmp t => cond (Nat.blt t n) (e t) undef
  | .const v => v
  | .global g => .pointer (some ⟨g, 0, none⟩)
  | .func f => .func (.func f) #[] #[]
def actOf (n : Nat) (e : Nat → Value) : Act := ⟨Array.ofFn (n := n) fun i => e i.val, []⟩
def setL : List Nat → List Value → (Nat → Value) → (Nat → Value)
  | o :: os, v :: vs, e => upd (setL os vs e) o v
  | _, _, e => e
def hav (ms : List Nat) (junk e : Nat → Value) : Nat → Value := fun i => cond (ms.elem i) (junk i) (e i)

theorem blt_iff (a b : Nat) : Nat.blt a b = true ↔ a < b := by simp [Nat.blt]; omega
theorem actOf_getD (n : Nat) (e : Nat → Value) (t : Nat) : (actOf n e).tmps.getD t undef = cond (Nat.blt t n) (e t) undef := by
  by_cases h : t < n
  · have hb := (blt_iff t n).2 h
    simp [actOf, Array.getD, h, hb]
  · have hb : Nat.blt t n = false := by
      cases hh : Nat.blt t n
      · rfl
      · exact absurd ((blt_iff t n).1 hh) h
    simp [actOf, Array.getD, h, hb]
theorem actOf_eval (n : Nat) (e : Nat → Value) : (actOf n e).eval = ev n e := by
  funext x
  cases x with
  | tmp t => exact actOf_getD n e t
  | const v => rfl
  | global g => rfl
  | func f => rfl
theorem upd_apply (e : Nat → Value) (d : Nat) (v : Value) (i : Nat) : upd e d v i = if i = d then v else e i := by
  unfold upd
  by_cases h : i = d
  · subst h; simp
  · have : Nat.beq i d = false := by
      cases hh : Nat.beq i d
      · rfl
      · exact absurd (Nat.eq_of_beq_eq_true hh) h
    simp [this, h]
theorem actOf_put (n : Nat) (e : Nat → Value) (d : Option Nat) (v : Value) : (actOf n e).put d v = actOf n (put n e d v) := by
  cases d with
  | none => rfl
  | some d =>
    simp only [Act.put, put, actOf]
    congr 1
    by_cases h : d < n
    · rw [(blt_iff d n).2 h]
      simp only [cond_true]
      apply Array.ext_getElem?
      intro i
      by_cases hi : i < n
      · by_cases hd : d = i
        · subst hd; simp [hi, upd_apply]
        · simp [hi, upd_apply, hd, Ne.symm hd, Array.getElem?_setIfInBounds]
      · simp [hi, Array.getElem?_setIfInBounds]
    · have hb : Nat.blt d n = false := by
        cases hh : Nat.blt d n
        · rfl
        · exact absurd ((blt_iff d n).1 hh) h
      rw [hb]
      simp only [cond_false]
      apply Array.ext_getElem?
      intro i
      by_cases hd : d = i
      · subst hd; simp [h, Array.getElem?_setIfInBounds]
      · simp [hd, Array.getElem?_setIfInBounds]
theorem setL_map (os : List Nat) (e : Nat → Value) : setL os (os.map e) e = e := by
  induction os with
  | nil => rfl
  | cons o os ih =>
    funext i
    simp only [List.map_cons, setL, ih, upd_apply]
    split
    · rename_i h; rw [h]
    · rfl
theorem setL_hav (os ms : List Nat) (e e' : Nat → Value) (h : ∀ i, i ∉ ms → e' i = e i) : setL os (os.map e') (hav ms e' e) = e' := by
  have hh : hav ms e' e = e' := by
    funext i
    unfold hav
    cases hi : ms.elem i
    · simp only [cond_false]
      have : i ∉ ms := fun hm => by have := List.elem_eq_true_of_mem hm; rw [hi] at this; cases this
      exact (h i this).symm
    · rfl
  rw [hh]
  exact setL_map os e'

/-! ### continuations of k values -/
def VF : Nat → Type
  | 0 => World → Prop
  | k + 1 => Value → VF k
def cur : (k : Nat) → (List Value → World → Prop) → VF k
  | 0, f => f []
  | k + 1, f => fun v => cur k (fun l => f (v :: l))
def app : (k : Nat) → VF k → List Value → World → Prop
  | 0, j, _ => j
  | k + 1, j, [] => app k (j undef) []
  | k + 1, j, v :: l => app k (j v) l
theorem app_cur : ∀ (k : Nat) (f : List Value → World → Prop) (l : List Value) (w : World), l.length = k → app k (cur k f) l w = f l w
  | 0, f, l, w, h => by
    obtain rfl := List.eq_nil_of_length_eq_zero h
    rfl
  | k + 1, f, [], w, h => by simp at h
  | k + 1, f, v :: l, w, h => app_cur k (fun l => f (v :: l)) l w (by simpa using h)

/-! ### the words of the text -/
/-- One operation of the model: it runs to an end, and what follows holds of what it left. -/
def Does (P : Program) {α : Type} (s : Sem α) (w : World) (k : α → World → Prop) : Prop := ∃ v w', s.run P w = .ok v w' ∧ k v w'
def hasBody (P : Program) (f : FuncId) : Bool :=
  match P.funcs[f]? with
  | some fn => fn.body.isSome && !(fn.name == "runtime.NumGoroutine")
  | none => false
/-- A call of a function with a body returns. -/
def Call (P : Program) (f : FuncId) (args : Array Value) (w : World) (k : Value → World → Prop) : Prop :=
  hasBody P f = true ∧ Calls P f args w fun e w' => ∃ v, e = .returned v ∧ k v w'
/-- A call through a function value. -/
def CallV (P : Program) (fv : Value) (args : Array Value) (w : World) (k : Value → World → Prop) : Prop :=
  ∃ f first cap, fv = .func (.func f) first cap ∧ Call P f (first ++ args ++ cap) w k
def CondP (v : Value) (x y : Prop) : Prop := ∃ b : Bool, v = .bool b ∧ (b = true → x) ∧ (b = false → y)
def PickP (v x y : Value) (k : Value → Prop) : Prop := ∃ b : Bool, v = .bool b ∧ k (if b then x else y)
def GuardP (v : Value) (b : Bool) (x y : Prop) : Prop := (v = .bool b → x) ∧ (v ≠ .bool b → y)
def JoinP (k : Nat) (x : VF k → Prop) (j : VF k) : Prop := x j
def RN (k : Nat) (B : VF k → VF k) : Nat → VF k
  | 0 => cur k fun _ _ => False
  | m + 1 => B (RN k B m)
/-- A loop: it ends after some number of rounds. -/
def Rounds (k : Nat) (B : VF k → VF k) : VF k := cur k fun l w => ∃ m, app k (RN k B m) l w
def NilCheckP (v : Value) (k : Value → Prop) : Prop := match v with
  | .pointer (some a) => k (.pointer (some a))
  | _ => False

theorem Call.mono {P : Program} {f : FuncId} {args : Array Value} {w : World} {k k' : Value → World → Prop} (h : Call P f args w k) (hk : ∀ v w', k v w' → k' v w') : Call P f args w k' :=
  ⟨h.1, h.2.mono fun _ _ ⟨v, he, hv⟩ => ⟨v, he, hk _ _ hv⟩⟩
theorem Does.mono {P : Program} {α : Type} {s : Sem α} {w : World} {k k' : α → World → Prop} (h : Does P s w k) (hk : ∀ v w', k v w' → k' v w') : Does P s w k' :=
  let ⟨v, w', hr, hv⟩ := h
  ⟨v, w', hr, hk _ _ hv⟩

/-! ### what a region's operations do -/
def yieldE (n : Nat) (e : Nat → Value) (ops : List Oper) (j : Nat) : Value :=
  match (ops[j]?).bind (·.dst) with
  | some d => cond (Nat.blt d n) (e d) undef
  | none => undef
/-- '==' and '!='. -/
def eqE (op : BinOp) (t : TypeId) (x y : Operand) (u v : Value) : Sem Value := do eqGuard op t x y u v; binOp op t u v
/-- An operation, its operands read. -/
inductive OpV where
  | val (v : Value)
  | sem (s : Sem Value)
  | unit (s : Sem Unit)
  | call (f : FuncId) (args : Array Value)
  | callv (fv : Value) (args : Array Value)
  | pick (c a b : Value)
  | nil (v : Value)
  | raw (s : Sem Next)
def viewOp (n : Nat) (e : Nat → Value) (o : Oper) : OpV :=
  match o.op with
  | .move x => .val (ev n e x)
  | .assign x => .val (ev n e x)
  | .pick c a b => .pick (ev n e c) (ev n e a) (ev n e b)
  | .alloc t => .sem (Instr.alloc t true (.tuple #[]))
  | .box t x => .sem (Instr.box t (ev n e x))
  | .build t ps => .sem (Instr.build t (ps.toList.map fun p => (p.1, ev n e p.2)).toArray)
  | .buildSlice t l ps => .sem (Instr.buildSlice t l (ps.toList.map fun p => (p.1, ev n e p.2)).toArray)
  | .load t x => .sem (Instr.loadAt t (ev n e x))
  | .store t x y => .unit (Instr.storeAt t (ev n e x) (ev n e y))
  | .nilCheck x => .nil (ev n e x)
  | .binOp .eql t x y _ => .sem (eqE .eql t x y (ev n e x) (ev n e y))
  | .binOp .neq t x y _ => .sem (eqE .neq t x y (ev n e x) (ev n e y))
  | .binOp op t x y _ => .sem (binOp op t (ev n e x) (ev n e y))
  | .unOp op _ x => .sem (Op.unary op (ev n e x))
  | .convert s t x => .sem (convert s t (ev n e x))
  | .makeFunc f fi ca => .val (.func f (fi.toList.map (ev n e)).toArray (ca.toList.map (ev n e)).toArray)
  | .makeMap t none => .sem (Instr.makeMap t none)
  | .makeSlice t x y => .sem (Instr.makeSlice t (ev n e x) (ev n e y))
  | .slice t x a b c => .sem (Instr.sliceAt t (ev n e x) (a.map (ev n e)) (b.map (ev n e)) (c.map (ev n e)))
  | .fieldAddr t x f => .sem (Instr.fieldAt t (ev n e x) f)
  | .field t x f => .sem (Instr.field t (ev n e x) f)
  | .indexAddr t x i => .sem (Instr.indexAt t (ev n e x) (ev n e i))
  | .index t x i => .sem (Instr.index t (ev n e x) (ev n e i))
  | .lookup t x i ok => .sem (Instr.lookup t (ev n e x) (ev n e i) ok)
  | .mapUpdate t m k v => .unit (Instr.mapUpdate t (ev n e m) (ev n e k) (ev n e v))
  | .range t x => .sem (Instr.range t (ev n e x))
  | .next it s => .sem (Instr.next (ev n e it) s o.type)
  | .entry it => .sem (Instr.entry (ev n e it))
  | .extract t i => .sem (Instr.extract (ev n e t) i)
  | .call ⟨.value (.func f), args, _⟩ => .call f (args.toList.map (ev n e)).toArray
  | .call ⟨.value x, args, _⟩ => .callv (ev n e x) (args.toList.map (ev n e)).toArray
  | .call ⟨.builtin .append, args, ts⟩ => .sem (Builtin.append_ ts o.type (args.toList.map (ev n e)).toArray)
  | .call ⟨.builtin .len, args, ts⟩ => .sem (Builtin.len_ ts o.type (args.toList.map (ev n e)).toArray)
  | .call ⟨.builtin .min, args, ts⟩ => .sem (Builtin.min_ ts o.type (args.toList.map (ev n e)).toArray)
  | .call ⟨.builtin .max, args, ts⟩ => .sem (Builtin.max_ ts o.type (args.toList.map (ev n e)).toArray)
  | .call ⟨.builtin .copy, args, ts⟩ => .sem (Builtin.copy_ ts o.type (args.toList.map (ev n e)).toArray)
  | .call ⟨.builtin .clear, args, ts⟩ => .sem (Builtin.clear_ ts o.type (args.toList.map (ev n e)).toArray)
  | .call ⟨.builtin .delete, args, ts⟩ => .sem (Builtin.delete_ ts o.type (args.toList.map (ev n e)).toArray)
  | _ => .raw (execOp (ev n e) o)
def nilSem (v : Value) : Sem Next :=
  match v with
  | .pointer (some a) => pure (.value (.pointer (some a)))
  | _ => stuck "not a plain pointer"
def OpV.run : OpV → Sem Next
  | .val v => pure (.value v)
  | .sem s => do pure (.value (← s))
  | .unit s => do s; pure .skip
  | .call f args => callFunc f args
  | .callv fv args => do let d ← Deferred.ofValue fv args; invoke d.target d.args
  | .pick c a b => do pure (.value (if ← asBool c then a else b))
  | .nil v => nilSem v
  | .raw s => s
/-- What is asked of one operation. -/
def viewE (P : Program) (V : OpV) (w : World) (k : Value → World → Prop) : Prop :=
  match V with
  | .val v => k v w
  | .sem s => Does P s w k
  | .unit s => Does P s w fun _ w => k undef w
  | .call f args => Call P f args w k
  | .callv fv args => CallV P fv args w k
  | .pick c a b => PickP c a b fun v => k v w
  | .nil v => NilCheckP v fun v => k v w
  | .raw s => ∃ v w', s.run P w = .ok (.value v) w' ∧ k v w'
/-- One operation, its operands read. -/
def opE (P : Program) (n : Nat) (o : Oper) (K : (Nat → Value) → World → Prop) (e : Nat → Value) (w : World) : Prop :=
  viewE P (viewOp n e o) w fun v w' => K (put n e o.dst v) w'

theorem map_toArray' {α β : Type} (f : α → β) (l : Array α) : (l.toList.map f).toArray = l.map f := by
  apply Array.ext'
  simp
/-- The machine's operation is the one that the text reads (but for a nil check of what is no plain pointer). -/
theorem exec_view (n : Nat) (e : Nat → Value) (o : Oper) (hv : ∀ v, viewOp n e o = .nil v → ∃ a, v = .pointer (some a)) : execOp (ev n e) o = (viewOp n e o).run := by
  generalize hV : viewOp n e o = V at hv ⊢
  unfold viewOp at hV
  split at hV <;> rename_i hop <;> subst hV <;> unfold execOp <;> simp only [hop, OpV.run]
  case h_6 | h_7 => rw [map_toArray']
  case h_10 =>
    obtain ⟨a, ha⟩ := hv _ rfl
    rw [ha]; rfl
  case h_13 op t x y yt h1 h2 =>
    have : eqGuard op t x y (ev n e x) (ev n e y) = pure () := by
      cases op <;> first | rfl | exact absurd rfl (h1 _ _ _ _) | exact absurd rfl (h2 _ _ _ _) | (exfalso; exact h1 rfl) | (exfalso; exact h2 rfl)
    rw [this]; rfl
  case h_16 => rw [map_toArray', map_toArray']; rfl
  case h_30 => rw [map_toArray']; simp [resolve, Deferred.ofValue, invoke, ev]
  case h_31 => rw [map_toArray']; rfl
  case h_32 | h_33 | h_34 | h_35 | h_36 | h_37 | h_38 => rw [map_toArray']; rfl
  all_goals rfl
theorem run_callFunc {P : Program} {f : FuncId} (hb : hasBody P f = true) (args : Array Value) (w : World) : (callFunc f args).run P w = .ok (.enter f args) w := by
  unfold hasBody at hb
  split at hb
  · rename_i fn hfn
    simp only [Bool.and_eq_true, Bool.not_eq_true'] at hb
    obtain ⟨hb1, hb2⟩ := hb
    have hn : fn.body.isNone = false := by cases hfb : fn.body <;> simp_all
    unfold callFunc
    simp only [Sem.run_bind]
    show (Result.ok P w).andThen _ = _
    simp only [Result.andThen_ok, hfn, hb2, hn, Bool.false_eq_true, if_false, Sem.run_pure]
  · cases hb
/-- What one operation's text says, the machine does: the run's outcome. -/
theorem view_run {P : Program} {V : OpV} {w : World} {k : Value → World → Prop} (h : viewE P V w k) :
    (∃ v w', V.run.run P w = .ok (.value v) w' ∧ k v w') ∨ (∃ w', V.run.run P w = .ok .skip w' ∧ k undef w') ∨
    (∃ f args, V.run.run P w = .ok (.enter f args) w ∧ Calls P f args w fun e w' => ∃ v, e = .returned v ∧ k v w') := by
  cases V with
  | val v => exact .inl ⟨v, w, rfl, h⟩
  | sem s =>
    obtain ⟨v, w', hr, hk⟩ := h
    exact .inl ⟨v, w', by simp only [OpV.run, Sem.run_bind, hr, Result.andThen_ok, Sem.run_pure], hk⟩
  | unit s =>
    obtain ⟨v, w', hr, hk⟩ := h
    exact .inr (.inl ⟨w', by simp only [OpV.run, Sem.run_bind, hr, Result.andThen_ok, Sem.run_pure], hk⟩)
  | call f args => exact .inr (.inr ⟨f, args, run_callFunc h.1 _ _, h.2⟩)
  | callv fv args =>
    obtain ⟨f, first, cap, rfl, hc⟩ := h
    refine .inr (.inr ⟨f, first ++ args ++ cap, ?_, hc.2⟩)
    have := run_callFunc hc.1 (first ++ args ++ cap) w
    simpa [OpV.run, Deferred.ofValue, invoke] using this
  | pick c a b =>
    obtain ⟨t, rfl, hk⟩ := h
    exact .inl ⟨_, w, by simp [OpV.run, asBool], hk⟩
  | nil v =>
    simp only [viewE] at h
    unfold NilCheckP at h
    split at h
    · exact .inl ⟨_, w, rfl, h⟩
    · exact h.elim
  | raw s =>
    obtain ⟨v, w', hr, hk⟩ := h
    exact .inl ⟨v, w', hr, hk⟩
theorem view_nil {P : Program} {n : Nat} {e : Nat → Value} {o : Oper} {w : World} {k : Value → World → Prop} (h : viewE P (viewOp n e o) w k) : execOp (ev n e) o = (viewOp n e o).run := by
  refine exec_view n e o fun v hv => ?_
  rw [hv] at h
  simp only [viewE] at h
  unfold NilCheckP at h
  split at h
  · exact ⟨_, rfl⟩
  · exact h.elim
theorem opE_sound {P : Program} {n : Nat} {o : Oper} {K : (Nat → Value) → World → Prop} {e : Nat → Value} {w : World} (h : opE P n o K e w)
    (L : Act → World → Prop) (Q : Exit → Act → World → Prop) (hL : ∀ v w', K (put n e o.dst v) w' → L ((actOf n e).put o.dst v) w') : o.wp P (actOf n e) w L Q := by
  unfold Oper.wp
  rw [actOf_eval]
  unfold opE at h
  rw [view_nil h]
  rcases view_run h with ⟨v, w', hr, hk⟩ | ⟨w', hr, hk⟩ | ⟨f, args, hr, hc⟩
  · rw [hr, Oper.upon_value]; exact hL v w' hk
  · rw [hr, Oper.upon_skip]; exact hL undef w' hk
  · rw [hr, Oper.upon_enter]
    exact hc.mono fun e' w' ⟨v, he, hv⟩ => by subst he; exact hL v w' hv

/-! ### regions -/
def dsts (l : List Oper) : List Nat := l.filterMap (·.dst)
def sameG (j : Nat) (b : Bool) (o : Oper) : Bool :=
  match o.guard with
  | some (i, c) => Nat.beq i j && (cond b c (!c))
  | none => false
def usesSlot (all : List Oper) (d : Nat) (o : Oper) : Bool :=
  (o.op.operands.toList.any fun | .tmp t => Nat.beq t d | _ => false) ||
  (match o.guard with
   | some (i, _) => (match (all[i]?).bind (·.dst) with | some t => Nat.beq t d | none => false)
   | none => false)
def grpOuts (all grp rest : List Oper) : List Nat := (dsts grp).filter fun d => rest.any (usesSlot all d)
def undefs (n : Nat) : List Oper → (Nat → Value) → (Nat → Value)
  | [], e => e
  | o :: l, e => undefs n l (put n e o.dst undef)
/-- Operations one behind the other, no guard looked at. -/
def wpS (P : Program) (n : Nat) (K : (Nat → Value) → World → Prop) : List Oper → (Nat → Value) → World → Prop
  | [], e, w => K e w
  | o :: l, e, w => opE P n o (wpS P n K l) e w
def wpR (P : Program) (n : Nat) (all : List Oper) (K : (Nat → Value) → World → Prop) : Nat → List Oper → (Nat → Value) → World → Prop
  | _, [], e, w => K e w
  | 0, _ :: _, _, _ => False
  | m + 1, o :: rest, e, w =>
    match o.guard with
    | none => opE P n o (wpR P n all K m rest) e w
    | some (j, b) =>
      cond ((dsts (o :: rest.takeWhile (sameG j b))).any fun d => match (all[j]?).bind (·.dst) with | some t => Nat.beq t d | none => true) False
        (JoinP (grpOuts all (o :: rest.takeWhile (sameG j b)) (rest.dropWhile (sameG j b))).length
          (fun J => GuardP (yieldE n e all j) b
            (wpS P n (fun e' w' => app _ J ((grpOuts all (o :: rest.takeWhile (sameG j b)) (rest.dropWhile (sameG j b))).map e') w') (o :: rest.takeWhile (sameG j b)) e w)
            (app _ J ((grpOuts all (o :: rest.takeWhile (sameG j b)) (rest.dropWhile (sameG j b))).map (undefs n (o :: rest.takeWhile (sameG j b)) e)) w))
          (cur _ fun vals w' => ∀ junk : Nat → Value, wpR P n all K m (rest.dropWhile (sameG j b)) (setL (grpOuts all (o :: rest.takeWhile (sameG j b)) (rest.dropWhile (sameG j b))) vals (hav (dsts (o :: rest.takeWhile (sameG j b))) junk e)) w'))

theorem put_frame {n : Nat} {e : Nat → Value} {d : Option Nat} {v : Value} {i : Nat} (h : d ≠ some i) : put n e d v i = e i := by
  unfold put
  split
  · rfl
  · rename_i d
    cases Nat.blt d n
    · rfl
    · simp only [cond_true, upd_apply]
      rw [if_neg (fun hh => h (by rw [hh]))]
theorem wanted_none {o : Oper} {ops : Array Oper} {t : Array Value} (h : o.guard = none) : Region.wanted o (yielded ops t) = true := by simp [Region.wanted, h]
theorem wanted_iff {o : Oper} {all : List Oper} {n : Nat} {e : Nat → Value} {j : Nat} {b : Bool} (h : o.guard = some (j, b)) :
    Region.wanted o (yielded all.toArray (actOf n e).tmps) = true ↔ yieldE n e all j = .bool b := by
  simp only [Region.wanted, h, yielded, yieldE]
  have h0 : all.toArray[j]? = all[j]? := by simp
  rw [h0]
  cases hd : (all[j]?).bind (·.dst) with
  | none => simp [undef]
  | some d =>
    simp only [Option.bind_some]
    by_cases hdn : d < n
    · have h1 : (actOf n e).tmps[d]? = some (e d) := by simp [actOf, hdn]
      rw [h1, (blt_iff d n).2 hdn]
      cases hv : e d <;> simp
    · have h1 : (actOf n e).tmps[d]? = none := by simp [actOf, hdn]
      have hb : Nat.blt d n = false := by
        cases hh : Nat.blt d n
        · rfl
        · exact absurd ((blt_iff d n).1 hh) hdn
      rw [h1, hb]
      simp [undef]
theorem yieldE_put {all : List Oper} {n : Nat} {e : Nat → Value} {j : Nat} {d : Option Nat} {v : Value} (h : ∀ t, (all[j]?).bind (·.dst) = some t → d ≠ some t) : yieldE n (put n e d v) all j = yieldE n e all j := by
  unfold yieldE
  split
  · rename_i t ht
    rw [put_frame (h t ht)]
  · rfl
/-- Where a region's text ends, with what it leaves alone. -/
def LeavesE (n : Nat) (e : Nat → Value) (ms : List Nat) (Q : Exit → (Nat → Value) → World → Prop) : Exit → Act → World → Prop :=
  fun x a w => ∃ e', a = actOf n e' ∧ (∀ i, i ∉ ms → e' i = e i) ∧ Q x e' w
theorem sameG_spec {j : Nat} {b : Bool} {o : Oper} (h : sameG j b o = true) : o.guard = some (j, b) := by
  unfold sameG at h
  split at h
  · rename_i i c hg
    simp only [Bool.and_eq_true] at h
    obtain ⟨h1, h2⟩ := h
    have := Nat.eq_of_beq_eq_true h1
    subst this
    rw [hg]
    cases b <;> cases c <;> simp_all
  · cases h
theorem dsts_cons {i : Nat} {o : Oper} {g : List Oper} (h : i ∉ dsts (o :: g)) : o.dst ≠ some i ∧ i ∉ dsts g := by
  unfold dsts at *
  simp only [List.mem_filterMap, not_exists, not_and] at *
  exact ⟨h o (by simp), fun a ha => h a (by simp [ha])⟩
theorem mem_takeWhile {α : Type} {p : α → Bool} : ∀ {l : List α} {x : α}, x ∈ l.takeWhile p → p x = true
  | [], x, h => by simp at h
  | y :: l, x, h => by
    rw [List.takeWhile_cons] at h
    split at h
    · rename_i hy
      rcases List.mem_cons.1 h with rfl | h
      · exact hy
      · exact mem_takeWhile h
    · simp at h
/-- a group that is carried out -/
theorem grp_run {P : Program} {n : Nat} {all rest : List Oper} {Q : Exit → Act → World → Prop} {K : (Nat → Value) → World → Prop} {j : Nat} {b : Bool} :
    ∀ (g : List Oper) (e : Nat → Value) (w : World), (∀ o ∈ g, o.guard = some (j, b)) → (∀ o ∈ g, ∀ t, (all[j]?).bind (·.dst) = some t → o.dst ≠ some t) → yieldE n e all j = .bool b →
      wpS P n K g e w → (∀ e' w', (∀ i, i ∉ dsts g → e' i = e i) → K e' w' → wpList P all.toArray Q rest (actOf n e') w') → wpList P all.toArray Q (g ++ rest) (actOf n e) w
  | [], e, w, _, _, _, h, hK => hK e w (fun _ _ => rfl) h
  | o :: g, e, w, hg, hd, hy, h, hK => by
    simp only [List.cons_append]
    unfold wpList
    rw [if_pos ((wanted_iff (hg o (by simp))).2 hy)]
    refine .inl (opE_sound h _ _ fun v w' hk => ?_)
    rw [actOf_put]
    refine grp_run g _ w' (fun o ho => hg o (by simp [ho])) (fun o ho => hd o (by simp [ho])) ?_ hk ?_
    · rw [yieldE_put (hd o (by simp))]; exact hy
    · intro e' w'' hf hk'
      refine hK e' w'' (fun i hi => ?_) hk'
      rw [hf i (dsts_cons hi).2, put_frame (dsts_cons hi).1]
/-- a group that is passed by -/
theorem grp_skip {P : Program} {n : Nat} {all rest : List Oper} {Q : Exit → Act → World → Prop} {j : Nat} {b : Bool} {w : World} :
    ∀ (g : List Oper) (e : Nat → Value), (∀ o ∈ g, o.guard = some (j, b)) → (∀ o ∈ g, ∀ t, (all[j]?).bind (·.dst) = some t → o.dst ≠ some t) → yieldE n e all j ≠ .bool b →
      ((∀ i, i ∉ dsts g → undefs n g e i = e i) → wpList P all.toArray Q rest (actOf n (undefs n g e)) w) → wpList P all.toArray Q (g ++ rest) (actOf n e) w
  | [], e, _, _, _, hK => hK (fun _ _ => rfl)
  | o :: g, e, hg, hd, hy, hK => by
    simp only [List.cons_append]
    unfold wpList
    rw [if_neg (fun h => hy ((wanted_iff (hg o (by simp))).1 h)), actOf_put]
    refine grp_skip g _ (fun o ho => hg o (by simp [ho])) (fun o ho => hd o (by simp [ho])) ?_ fun hf => hK fun i hi => ?_
    · rw [yieldE_put (hd o (by simp))]; exact hy
    · show undefs n g (put n e o.dst undef) i = e i
      rw [hf i (dsts_cons hi).2, put_frame (dsts_cons hi).1]
theorem mem_dsts_append {i : Nat} {a b : List Oper} : i ∈ dsts (a ++ b) ↔ i ∈ dsts a ∨ i ∈ dsts b := by simp [dsts, List.filterMap_append]
theorem wpR_sound {P : Program} {n : Nat} {all : List Oper} {K : (Nat → Value) → World → Prop} {Q : Exit → Act → World → Prop} :
    ∀ (m : Nat) (l : List Oper) (e : Nat → Value) (w : World), wpR P n all K m l e w → (∀ e' w', (∀ i, i ∉ dsts l → e' i = e i) → K e' w' → Q .normal (actOf n e') w') → wpList P all.toArray Q l (actOf n e) w
  | _, [], e, w, h, hQ => by
    have h' : K e w := by cases ‹Nat› <;> exact h
    exact hQ e w (fun _ _ => rfl) h'
  | 0, o :: rest, e, w, h, hQ => h.elim
  | m + 1, o :: rest, e, w, h, hQ => by
    unfold wpR at h
    split at h
    · rename_i hg
      unfold wpList
      rw [if_pos (wanted_none hg)]
      refine .inl (opE_sound h _ _ fun v w' hk => ?_)
      rw [actOf_put]
      refine wpR_sound m rest _ w' hk fun e' w'' hf hk' => hQ e' w'' (fun i hi => ?_) hk'
      rw [hf i (dsts_cons hi).2, put_frame (dsts_cons hi).1]
    · rename_i j b hg
      generalize hgr : o :: rest.takeWhile (sameG j b) = g at h
      generalize hre : rest.dropWhile (sameG j b) = r at h
      have hl : o :: rest = g ++ r := by rw [← hgr, ← hre]; simp [List.takeWhile_append_dropWhile]
      cases hc : (dsts g).any fun d => match (all[j]?).bind (·.dst) with | some t => Nat.beq t d | none => true with
      | true => rw [hc] at h; exact h.elim
      | false =>
        rw [hc] at h
        simp only [cond_false, JoinP] at h
        have hgg : ∀ o' ∈ g, o'.guard = some (j, b) := by
          intro o' ho'
          rw [← hgr] at ho'
          rcases List.mem_cons.1 ho' with rfl | ho'
          · exact hg
          · exact sameG_spec (mem_takeWhile ho')
        have hgd : ∀ o' ∈ g, ∀ t, (all[j]?).bind (·.dst) = some t → o'.dst ≠ some t := by
          intro o' ho' t ht hdt
          rw [List.any_eq_false] at hc
          have := hc t (by unfold dsts; simp only [List.mem_filterMap]; exact ⟨o', ho', hdt⟩)
          simp only [ht] at this
          simp at this
        rw [hl]
        have frame2 : ∀ (e' : Nat → Value), (∀ i, i ∉ dsts g → e' i = e i) → ∀ w', app _ (cur (grpOuts all g r).length fun vals w' => ∀ junk : Nat → Value, wpR P n all K m r (setL (grpOuts all g r) vals (hav (dsts g) junk e)) w') ((grpOuts all g r).map e') w' →
            wpList P all.toArray Q r (actOf n e') w' := by
          intro e' hf w' hj
          rw [app_cur _ _ _ _ (by simp)] at hj
          have := hj e'
          rw [setL_hav _ _ _ _ hf] at this
          refine wpR_sound m r e' w' this fun e'' w'' hf' hk => hQ e'' w'' (fun i hi => ?_) hk
          rw [hl, mem_dsts_append] at hi
          rw [hf' i (fun hm => hi (.inr hm)), hf i (fun hm => hi (.inl hm))]
        by_cases hy : yieldE n e all j = .bool b
        · exact grp_run g e w hgg hgd hy (h.1 hy) fun e' w' hf hk => frame2 e' hf w' hk
        · exact grp_skip g e hgg hgd hy fun hf => frame2 _ hf w (h.2 hy)

/-! ### code -/
structure Ann where
  loops : Nat → List Nat
  joins : Nat → Option (List Nat)
  ins : Nat → List Nat
  outs : Nat → List Nat
def frc : Code → Option Nat
  | .region id _ _ => some id
  | .seq a b => match frc a with | some i => some i | none => frc b
  | .cond _ a b => match frc a with | some i => some i | none => frc b
  | .block _ c => frc c
  | .loop c => frc c
  | _ => none
def mods : Code → List Nat
  | .region _ ops _ => dsts ops.toList
  | .seq a b => mods a ++ mods b
  | .cond _ a b => mods a ++ mods b
  | .block _ c => mods c
  | .loop c => mods c
  | _ => []
/-- A region that draws its order: whatever order the tape picks. -/
def DrawP (P : Program) (n : Nat) (ops : List Oper) (ins : List Nat) (vals : List Value) (outs : List Nat) (J : VF outs.length) (w : World) : Prop :=
  ∀ junk : Nat → Value, wpAny P .any ops.toArray (fun x a w' => x = .normal ∧ ∃ e', a = actOf n e' ∧ (∀ i, i ∉ dsts ops → e' i = setL ins vals junk i) ∧ app _ J (outs.map e') w')
    ops.length (Array.replicate ops.length false) (actOf n (setL ins vals junk)) { w with drawn := w.drawn + 1 }
def thenE (k : (Nat → Value) → World → Prop) (Q : Exit → (Nat → Value) → World → Prop) : Exit → (Nat → Value) → World → Prop
  | .normal, e, w => k e w
  | x, e, w => Q x e w
def blockE (id : Nat) (Q : Exit → (Nat → Value) → World → Prop) : Exit → (Nat → Value) → World → Prop
  | .exit j, e, w => cond (Nat.beq j id) (Q .normal e w) (Q (.exit j) e w)
  | x, e, w => Q x e w
def wpE (P : Program) (n : Nat) (an : Ann) : Code → (Exit → (Nat → Value) → World → Prop) → (Nat → Value) → World → Prop
  | .skip, Q, e, w => Q .normal e w
  | .exit id, Q, e, w => Q (.exit id) e w
  | .ret, Q, e, w => Q .ret e w
  | .region id ops draw, Q, e, w =>
    cond draw
      (DrawP P n ops.toList (an.ins id) ((an.ins id).map e) (an.outs id) (cur _ fun vals w' => ∀ junk : Nat → Value, Q .normal (setL (an.outs id) vals (hav (dsts ops.toList) junk e)) w') w)
      (wpR P n ops.toList (Q .normal) ops.toList.length ops.toList e w)
  | .seq a b, Q, e, w =>
    match (frc b).bind an.joins with
    | some outs => JoinP outs.length (fun J => wpE P n an a (thenE (fun e' w' => app _ J (outs.map e') w') Q) e w)
        (cur _ fun vals w' => ∀ junk : Nat → Value, wpE P n an b Q (setL outs vals (hav (mods a) junk e)) w')
    | none => wpE P n an a (thenE (wpE P n an b Q) Q) e w
  | .cond c a b, Q, e, w => CondP (ev n e c) (wpE P n an a Q e w) (wpE P n an b Q e w)
  | .block id c, Q, e, w => wpE P n an c (blockE id Q) e w
  | .loop c, Q, e, w =>
    match (frc c).map an.loops with
    | some outs => app _ (Rounds outs.length fun next => cur _ fun vals w' => ∀ junk : Nat → Value,
        wpE P n an c (thenE (fun e' w'' => app _ next (outs.map e') w'') Q) (setL outs vals (hav (mods c) junk e)) w') (outs.map e) w
    | none => False
  | _, _, _, _ => False

theorem oper_wp_post {P : Program} {o : Oper} {a : Act} {w : World} {K : Act → World → Prop} {Q Q' : Exit → Act → World → Prop} (h : ∀ x a w, Q x a w → Q' x a w) (hh : o.wp P a w K Q) : o.wp P a w K Q' := by
  unfold Oper.wp at *
  generalize (execOp a.eval o).run P w = r at *
  cases r with
  | ok n w' =>
    cases n <;> simp only [Oper.upon] at hh ⊢ <;>
      first
        | exact hh
        | exact Calls.mono hh (fun e w'' he => by cases e <;> first | exact he | exact h _ _ _ he | exact (let ⟨a, w, hq⟩ := he; ⟨a, w, h _ _ _ hq⟩))
  | halt x w' => cases x <;> simp only [Oper.upon] at hh ⊢ <;> exact h _ _ _ hh
theorem wpAny_post {P : Program} {md : Region.Mode} {ops : Array Oper} {Q Q' : Exit → Act → World → Prop} (h : ∀ x a w, Q x a w → Q' x a w) :
    ∀ (fuel : Nat) (listed : Array Bool) (a : Act) (w : World), wpAny P md ops Q fuel listed a w → wpAny P md ops Q' fuel listed a w
  | 0, _, _, _, hh => ⟨hh.1, h _ _ _ hh.2⟩
  | fuel + 1, listed, a, w, hh => by
    refine ⟨fun h0 => h _ _ _ (hh.1 h0), fun i hi => ?_⟩
    have h1 := hh.2 i hi
    unfold wpOp at h1 ⊢
    split
    · rename_i ho; simp only [ho] at h1; exact wpAny_post h fuel _ _ _ h1
    · rename_i o ho
      simp only [ho] at h1
      split
      · rename_i hw
        simp only [hw, if_true] at h1
        rcases h1 with h1 | ⟨h1, a', w', hq⟩
        · exact .inl (Oper.wp_mono (fun a w hk => wpAny_post h fuel _ a w hk) (oper_wp_post h h1))
        · exact .inr ⟨h1, a', w', h _ _ _ hq⟩
      · rename_i hw; simp only [hw] at h1; exact wpAny_post h fuel _ _ _ h1
theorem leaves_mono {n : Nat} {e e1 : Nat → Value} {ms ms' : List Nat} {Q Q' : Exit → (Nat → Value) → World → Prop} (hm : ∀ i, i ∈ ms' → i ∈ ms) (he : ∀ i, i ∉ ms → e1 i = e i) {x : Exit} {a : Act} {w : World}
    (hQ : ∀ e', Q' x e' w → Q x e' w) (h : LeavesE n e1 ms' Q' x a w) : LeavesE n e ms Q x a w := by
  obtain ⟨e', ha, hf, hq⟩ := h
  exact ⟨e', ha, fun i hi => (hf i (fun h => hi (hm i h))).trans (he i hi), hQ e' hq⟩
theorem wpE_sound {P : Program} {n : Nat} {an : Ann} (hmix : P.follows .mixedOrders = true) : ∀ (c : Code) (Q : Exit → (Nat → Value) → World → Prop) (e : Nat → Value) (w : World), wpE P n an c Q e w →
    c.wp P (LeavesE n e (mods c) Q) (actOf n e) w := by
  intro c
  induction c with
  | skip => intro Q e w h; exact wp_skip ⟨e, rfl, fun _ _ => rfl, h⟩
  | exit id => intro Q e w h; exact wp_exit ⟨e, rfl, fun _ _ => rfl, h⟩
  | ret => intro Q e w h; exact wp_ret ⟨e, rfl, fun _ _ => rfl, h⟩
  | region id ops draw =>
    intro Q e w h
    cases draw with
    | false =>
      refine wp_region_list ?_
      have := wpR_sound (Q := LeavesE n e (mods (.region id ops false)) Q) _ _ e w h fun e' w' hf hk => ⟨e', rfl, hf, hk⟩
      simpa using this
    | true =>
      refine wp_region_any hmix ?_
      have h1 := h e
      simp only [setL_map] at h1
      have h2 : wpAny P .any ops (fun x a w' => x = .normal ∧ ∃ e', a = actOf n e' ∧ (∀ i, i ∉ dsts ops.toList → e' i = e i) ∧
          app (an.outs id).length (cur (an.outs id).length fun vals w' => ∀ junk : Nat → Value, Q .normal (setL (an.outs id) vals (hav (dsts ops.toList) junk e)) w') ((an.outs id).map e') w')
          ops.size (Array.replicate ops.size false) (actOf n e) { w with drawn := w.drawn + 1 } := by simpa using h1
      refine wpAny_post ?_ _ _ _ _ h2
      rintro x a w' ⟨rfl, e', rfl, hf, hj⟩
      rw [app_cur _ _ _ _ (by simp)] at hj
      have := hj e'
      rw [setL_hav _ _ _ _ hf] at this
      exact ⟨e', rfl, hf, this⟩
  | seq a b iha ihb =>
    intro Q e w h
    refine wp_seq ?_
    unfold wpE at h
    split at h
    · rename_i outs _
      refine Code.wp_mono ?_ (iha _ e w h)
      rintro x a' w' ⟨e', rfl, hf, hq⟩
      have hmm : ∀ i, i ∉ mods (.seq a b) → e' i = e i := fun i hi => hf i (fun hm => hi (by simp [mods, hm]))
      cases x with
      | normal =>
        simp only [thenE] at hq
        rw [app_cur _ _ _ _ (by simp)] at hq
        have := hq e'
        rw [setL_hav _ _ _ _ hf] at this
        refine Code.wp_mono (fun x a w => leaves_mono (fun i hi => by simp [mods, hi]) hmm (fun _ h => h)) (ihb _ _ _ this)
      | _ => exact ⟨e', rfl, hmm, hq⟩
    · refine Code.wp_mono ?_ (iha _ e w h)
      rintro x a' w' ⟨e', rfl, hf, hq⟩
      have hmm : ∀ i, i ∉ mods (.seq a b) → e' i = e i := fun i hi => hf i (fun hm => hi (by simp [mods, hm]))
      cases x with
      | normal => exact Code.wp_mono (fun x a w => leaves_mono (fun i hi => by simp [mods, hi]) hmm (fun _ h => h)) (ihb _ _ _ hq)
      | _ => exact ⟨e', rfl, hmm, hq⟩
  | cond c a b iha ihb =>
    intro Q e w h
    obtain ⟨t, ht, hx, hy⟩ := h
    refine wp_cond_split (t := t) (by rw [actOf_eval]; exact ht) (fun h => ?_) (fun h => ?_)
    · exact Code.wp_mono (fun x a w => leaves_mono (fun i hi => by simp [mods, hi]) (fun _ _ => rfl) (fun _ h => h)) (iha _ _ _ (hx h))
    · exact Code.wp_mono (fun x a w => leaves_mono (fun i hi => by simp [mods, hi]) (fun _ _ => rfl) (fun _ h => h)) (ihb _ _ _ (hy h))
  | block id c ih =>
    intro Q e w h
    refine wp_block (Code.wp_mono ?_ (ih _ e w h))
    rintro x a w' ⟨e', rfl, hf, hq⟩
    cases x with
    | exit j =>
      simp only [Exit.inBlock]
      simp only [blockE] at hq
      by_cases hj : j = id
      · subst hj
        simp only [if_true]
        exact ⟨e', rfl, hf, by simpa using hq⟩
      · rw [if_neg hj]
        have : Nat.beq j id = false := by
          cases hh : Nat.beq j id
          · rfl
          · exact absurd (Nat.eq_of_beq_eq_true hh) hj
        rw [this] at hq
        exact ⟨e', rfl, hf, hq⟩
    | _ => exact ⟨e', rfl, hf, hq⟩
  | loop c ih =>
    intro Q e w h
    unfold wpE at h
    split at h
    · rename_i outs _
      unfold Rounds at h
      rw [app_cur _ _ _ _ (by simp)] at h
      obtain ⟨m, h⟩ := h
      refine wp_loop_rounds m ?_
      generalize he0 : e = e0 at h
      have hall : ∀ (m : Nat) (e1 : Nat → Value) (w : World), (∀ i, i ∉ mods c → e1 i = e0 i) → app _ (RN outs.length (fun next => cur _ fun vals w' => ∀ junk : Nat → Value,
          wpE P n an c (thenE (fun e' w'' => app _ next (outs.map e') w'') Q) (setL outs vals (hav (mods c) junk e0)) w') m) (outs.map e1) w → Code.rounds P c (LeavesE n e0 (mods (.loop c)) Q) m (actOf n e1) w := by
        intro m
        induction m with
        | zero =>
          intro e1 w _ h
          unfold RN at h
          rw [app_cur _ _ _ _ (by simp)] at h
          exact h.elim
        | succ m ihm =>
          intro e1 w hf h
          rw [rounds_succ]
          unfold RN at h
          rw [app_cur _ _ _ _ (by simp)] at h
          have := h e1
          rw [setL_hav _ _ _ _ hf] at this
          refine Code.wp_mono ?_ (ih _ _ _ this)
          rintro x a w' ⟨e', rfl, hf', hq⟩
          have hmm : ∀ i, i ∉ mods c → e' i = e0 i := fun i hi => (hf' i hi).trans (hf i hi)
          cases x with
          | normal => exact ihm e' w' hmm hq
          | _ => exact ⟨e', rfl, hmm, hq⟩
      have := hall m e0 w (fun _ _ => rfl) h
      subst he0
      exact this
    · exact h.elim
  | _ => intro Q e w h; exact h.elim

/-- How a function ends. -/
def SameP (P : Program) (s : Sem Value) (w : World) (k : Value → Prop) : Prop := ∃ v, s.run P w = .ok v w ∧ k v
/-- A result that lies in memory. -/
def loadRes (t : TypeId) (v : Value) : Sem Value := do loadVar t (← asAddr v)
def resE (P : Program) (n : Nat) (e : Nat → Value) (w : World) : List ResultVar → (List Value → Prop) → Prop
  | [], k => k []
  | .tmp t :: l, k => resE P n e w l fun vs => k (cond (Nat.blt t n) (e t) undef :: vs)
  | .cell a t :: l, k => SameP P (loadRes t (cond (Nat.blt a n) (e a) undef)) w fun v => resE P n e w l fun vs => k (v :: vs)
def packs : List Value → Value
  | [v] => v
  | l => .tuple l.toArray
def resF (ts : Array Value) : ResultVar → Sem Value
  | .tmp t => pure (ts.getD t undef)
  | .cell a t => do loadVar t (← asAddr (ts.getD a undef))
theorem resE_run {P : Program} {n : Nat} {e : Nat → Value} {w : World} : ∀ (l : List ResultVar) (k : List Value → Prop), resE P n e w l k →
    ∃ vs, (l.mapM (resF (actOf n e).tmps)).run P w = Result.ok vs w ∧ k vs
  | [], k, h => ⟨[], by simp, h⟩
  | .tmp t :: l, k, h => by
    obtain ⟨vs, hr, hk⟩ := resE_run l _ h
    refine ⟨_, ?_, hk⟩
    have h1 : (resF (actOf n e).tmps (.tmp t)).run P w = .ok (cond (Nat.blt t n) (e t) undef) w := by
      show (pure ((actOf n e).tmps.getD t undef) : Sem Value).run P w = _
      rw [actOf_getD]; rfl
    rw [List.mapM_cons]
    simp only [Sem.run_bind, Sem.run_pure, Result.andThen_ok, hr, h1]
  | .cell a t :: l, k, h => by
    obtain ⟨v, hv, h⟩ := h
    obtain ⟨vs, hr, hk⟩ := resE_run l _ h
    refine ⟨_, ?_, hk⟩
    have h1 : (resF (actOf n e).tmps (.cell a t)).run P w = .ok v w := by
      show (do loadVar t (← asAddr ((actOf n e).tmps.getD a undef)) : Sem Value).run P w = _
      rw [actOf_getD]; exact hv
    rw [List.mapM_cons]
    simp only [Sem.run_bind, Sem.run_pure, h1, Result.andThen_ok, hr]
theorem results_eq (fn : Func) (ts : Array Value) : results fn ts = (do let vs ← fn.results.mapM (resF ts); pure (if h : vs.size = 1 then vs[0] else .tuple vs)) := by
  unfold results
  congr 1
theorem results_run {P : Program} {fn : Func} {n : Nat} {e : Nat → Value} {w : World} {R : Value → Prop} (h : resE P n e w fn.results.toList fun vs => R (packs vs)) :
    ∃ v, (results fn (actOf n e).tmps).run P w = .ok v w ∧ R v := by
  obtain ⟨vs, hr, hk⟩ := resE_run _ _ h
  refine ⟨_, ?_, hk⟩
  rw [results_eq, Array.mapM_eq_mapM_toList]
  simp only [Sem.run_bind, Sem.run_map, hr, Result.andThen_ok, Sem.run_pure]
  congr 1
  match vs with
  | [] => rfl
  | [v] => rfl
  | v :: u :: l =>
    rw [dif_neg (by simp)]
    rfl
def endE (P : Program) (fn : Func) (n : Nat) (R : Value → World → Prop) : Exit → (Nat → Value) → World → Prop
  | .normal, e, w => resE P n e w fn.results.toList fun vs => R (packs vs) w
  | .ret, e, w => resE P n e w fn.results.toList fun vs => R (packs vs) w
  | _, _, _ => False
def args0 (args : List Value) : Nat → Value := fun i => args.getD i undef
theorem calls_of_wpE {P : Program} {f : FuncId} {fn : Func} {c : Code} {args : List Value} {w : World} {R : Value → World → Prop} (n : Nat) (an : Ann)
    (hf : P.funcs[f]? = some fn) (hb : fn.body = some c) (hn : fn.ntmps = n) (hlen : Nat.ble args.length n = true) (hname : hasBody P f = true) (hmix : P.follows .mixedOrders = true)
    (h : wpE P n an c (endE P fn n R) (args0 args) w) : Call P f args.toArray w R := by
  refine ⟨hname, calls_of_wp hf hb ?_⟩
  have h1 : ({ tmps := args.toArray ++ Array.replicate (fn.ntmps - args.toArray.size) undef, defers := [] } : Act) = actOf n (args0 args) := by
    unfold actOf
    congr 1
    have hl : args.length ≤ n := Nat.le_of_ble_eq_true hlen
    rw [hn]
    apply Array.ext_getElem?
    intro i
    simp only [Array.getElem?_append, Array.getElem?_ofFn, List.size_toArray, List.getElem?_toArray, Array.getElem?_replicate, args0]
    by_cases hi : i < args.length
    · rw [if_pos hi, dif_pos (by omega)]; simp [hi]
    · rw [if_neg hi]
      by_cases hin : i < n
      · rw [if_pos (by omega), dif_pos hin]; simp [hi]
      · rw [if_neg (by omega), dif_neg hin]
  rw [h1]
  refine Code.wp_mono ?_ (wpE_sound hmix c _ _ _ h)
  rintro x a w' ⟨e', rfl, hfr, hq⟩
  cases x with
  | normal =>
    obtain ⟨v, hr, hk⟩ := results_run (R := fun v => R v w') hq
    exact ⟨rfl, v, hr, v, rfl, hk⟩
  | ret =>
    obtain ⟨v, hr, hk⟩ := results_run (R := fun v => R v w') hq
    exact ⟨rfl, v, hr, v, rfl, hk⟩
  | _ => exact hq.elim
def bodyOf (fn : Func) : Code := fn.body.getD .skip
theorem vc_of {P : Program} {f : FuncId} {fn : Func} {args : List Value} {w : World} {R : Value → World → Prop} (n : Nat) (an : Ann)
    (hf : P.funcs[f]? = some fn) (hb : fn.body.isSome = true) (hn : fn.ntmps = n) (hlen : Nat.ble args.length n = true) (hname : hasBody P f = true) (hmix : P.follows .mixedOrders = true)
    (h : wpE P n an (bodyOf fn) (endE P fn n R) (args0 args) w) : Call P f args.toArray w R := by
  refine calls_of_wpE (c := bodyOf fn) n an hf ?_ hn hlen hname hmix h
  unfold bodyOf
  cases hb' : fn.body with
  | none => rw [hb'] at hb; cases hb
  | some c => rfl
/-- Finite tables, for the annotations. -/
def lk : List (Nat × List Nat) → Nat → List Nat
  | [], _ => []
  | p :: l, i => cond (Nat.beq p.1 i) p.2 (lk l i)
def lkO : List (Nat × List Nat) → Nat → Option (List Nat)
  | [], _ => none
  | p :: l, i => cond (Nat.beq p.1 i) (some p.2) (lkO l i)
def rgn : Code → Nat → List Oper
  | .region id ops _, i => cond (Nat.beq id i) ops.toList []
  | .seq a b, i => rgn a i ++ rgn b i
  | .cond _ a b, i => rgn a i ++ rgn b i
  | .block _ c, i => rgn c i
  | .loop c, i => rgn c i
  | _, _ => []
def opsOf (fn : Func) (i : Nat) : List Oper := rgn (bodyOf fn) i
end Go.Proofs.Ytcncgkkilgmphaa
