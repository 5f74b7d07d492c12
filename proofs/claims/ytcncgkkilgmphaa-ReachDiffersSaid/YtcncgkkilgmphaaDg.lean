/-
  Contracts of the graph's small functions: made, its length, is a commit there, its stamp, its parents, a commit added.
-/
import Derived.Test.YtcncgkkilgmphaaMp
import Derived.Test.YtcncgkkilgmphaaTy
set_option linter.unusedVariables false
set_option linter.unusedSimpArgs false
namespace Go.Proofs.Ytcncgkkilgmphaa
open Go Go.RowKit

/-! ### 1. sets of blocks -/
/-- Of what was there, only blocks in T have turned. -/
structure ModIn (T : Nat → Prop) (w w' : World) : Prop where
  os : w'.os = w.os
  tape : w'.tape = w.tape
  output : w'.output = w.output
  size : w.heap.size ≤ w'.heap.size
  block : ∀ k, k < w.heap.size → ¬ T k → w'.heap[k]? = w.heap[k]?
theorem ModIn.refl (T : Nat → Prop) (w : World) : ModIn T w w := ⟨rfl, rfl, rfl, Nat.le_refl _, fun _ _ _ => rfl⟩
theorem ModIn.ofExt {T : Nat → Prop} {w w' : World} (h : Ext w w') : ModIn T w w' := ⟨h.os, h.tape, h.output, h.size, fun k hk _ => Below.block h k hk⟩
theorem ModIn.ofMod {T : Nat → Prop} {w w' : World} {b : Nat} (h : Mod (some b) w w') (hT : T b) : ModIn T w w' :=
  ⟨h.os, h.tape, h.output, h.size, fun k hk hn => h.block k hk (fun e => hn (by cases e; exact hT))⟩
theorem ModIn.ofModO {T : Nat → Prop} {w w' : World} {row : Option Nat} (h : Mod row w w') (hT : ∀ b, row = some b → T b) : ModIn T w w' :=
  ⟨h.os, h.tape, h.output, h.size, fun k hk hn => h.block k hk (fun e => hn (hT k e.symm))⟩
theorem ModIn.trans {T U : Nat → Prop} {a b c : World} (h : ModIn T a b) (k : ModIn U b c) (hU : ∀ n, U n → n < a.heap.size → T n) : ModIn T a c :=
  ⟨k.os.trans h.os, k.tape.trans h.tape, k.output.trans h.output, Nat.le_trans h.size k.size, fun i hi hn => (k.block i (Nat.lt_of_lt_of_le hi h.size) (fun hu => hn (hU i hu hi))).trans (h.block i hi hn)⟩
theorem ModIn.mono {T U : Nat → Prop} {w w' : World} (h : ModIn T w w') (hT : ∀ k, k < w.heap.size → T k → U k) : ModIn U w w' :=
  ⟨h.os, h.tape, h.output, h.size, fun k hk hn => h.block k hk (fun ht => hn (hT k hk ht))⟩
theorem ModIn.ext {T : Nat → Prop} {w0 w w' : World} (h : Ext w0 w) (hm : ModIn T w w') (hT : ∀ k, k < w0.heap.size → ¬ T k) : Ext w0 w' :=
  ⟨hm.os.trans h.os, hm.tape.trans h.tape, hm.output.trans h.output, Nat.le_trans h.size hm.size, fun k hk => (hm.block k (Nat.lt_of_lt_of_le hk h.size) (hT k hk)).trans (Below.block h k hk)⟩
theorem cell_of_block {w w' : World} {a : Addr} {v : Value} (hb : w'.heap[a.block]? = w.heap[a.block]?) (hc : w.cell? a = some v) : w'.cell? a = some v := by
  have : w'.cell? a = w.cell? a := by unfold World.cell?; rw [hb]
  rw [this]; exact hc
theorem ModIn.cell {T : Nat → Prop} {w w' : World} {a : Addr} {v : Value} (h : ModIn T w w') (hT : ¬ T a.block) (hc : w.cell? a = some v) : w'.cell? a = some v :=
  cell_of_block (h.block _ (World.block_lt_of_cell? w a hc) hT) hc
/-- A row whose cells lie in T. -/
def RowIn (T : Nat → Prop) (w : World) (v : Value) (xs : List Value) : Prop := Row w v xs ∧ ∀ a n c, v = .slice (some a) n c → xs ≠ [] → T a.block
theorem RowIn.row {T : Nat → Prop} {w : World} {v : Value} {xs : List Value} (h : RowIn T w v xs) : Row w v xs := h.1
theorem RowIn.mono {T U : Nat → Prop} {w : World} {v : Value} {xs : List Value} (h : RowIn T w v xs) (hT : ∀ k, k < w.heap.size → T k → U k) : RowIn U w v xs := by
  refine ⟨h.1, fun a n c hv hx => hT _ ?_ (h.2 a n c hv hx)⟩
  obtain ⟨a', c', hv', _, hc⟩ := h.1
  cases xs with
  | nil => exact absurd rfl hx
  | cons x xs =>
    obtain ⟨ad, h1, h2⟩ := hc 0 x rfl
    have := World.block_lt_of_cell? w _ h2
    rw [hv] at hv'
    simp only [Value.slice.injEq] at hv'
    rw [← hv'.1] at h1
    cases h1
    simpa [Addr.add] using (by
      have h5 : (a.add 0).block = a.block := by unfold Addr.add; split <;> rfl
      rw [h5] at this
      exact this)
theorem add_block (a : Addr) (j : Nat) : (a.add j).block = a.block := by unfold Addr.add; split <;> rfl
theorem RowIn.mod {T U : Nat → Prop} {w w' : World} {v : Value} {xs : List Value} (h : RowIn T w v xs) (hm : ModIn U w w') (hd : ∀ k, T k → ¬ U k) : RowIn T w' v xs := by
  refine ⟨?_, h.2⟩
  obtain ⟨a, c, hv, hl, hc⟩ := h.1
  refine ⟨a, c, hv, hl, fun j x hj => ?_⟩
  obtain ⟨ad, h1, h2⟩ := hc j x hj
  refine ⟨ad, h1, hm.cell ?_ h2⟩
  rw [add_block]
  subst h1
  exact hd _ (h.2 ad _ _ hv (by intro e; rw [e] at hj; cases hj))
theorem RowIn.ext {T : Nat → Prop} {w w' : World} {v : Value} {xs : List Value} (h : RowIn T w v xs) (hE : Ext w w') : RowIn T w' v xs := ⟨h.1.ext hE, h.2⟩
theorem RowIn.nil {T : Nat → Prop} (w : World) (a : Option Addr) (c : Nat) : RowIn T w (.slice a 0 c) [] := ⟨Row.nil _ _ _, fun _ _ _ _ h => absurd rfl h⟩
theorem Own.rowIn {T : Nat → Prop} {w : World} {base : Nat} {e : TypeId} {v : Value} {xs : List Value} (h : Own w base e v xs) (hT : ∀ k, base ≤ k → k < w.heap.size → T k) : RowIn T w v xs := by
  refine ⟨h.row, fun a n c hv _ => ?_⟩
  have := h.lt a.block (by rw [hv]; rfl)
  exact hT _ this.1 this.2

/-! ### 2. the program's graph -/
structure Cm where
  id : ByteArray
  ps : List ByteArray
  st : Int
def nodeP (T : Nat → Prop) (w : World) (p : ByteArray × Value) (c : Cm) : Prop := p.1 = c.id ∧ ∃ s, p.2 = .agg #[s, .int .i64 c.st] ∧ RowIn T w s (strsV c.ps)
def nodesP (T : Nat → Prop) (w : World) : KV → List Cm → Prop
  | [], [] => True
  | p :: l, c :: G => nodeP T w p c ∧ nodesP T w l G
  | _, _ => False
theorem nodesP.imp {T U : Nat → Prop} {w w' : World} : ∀ {l : KV} {G : List Cm}, nodesP T w l G → (∀ s c, c ∈ G → RowIn T w s (strsV c.ps) → RowIn U w' s (strsV c.ps)) → nodesP U w' l G
  | [], [], _, _ => trivial
  | p :: l, c :: G, ⟨⟨h1, s, h2, h3⟩, h⟩, hi => ⟨⟨h1, s, h2, hi s c (by simp) h3⟩, nodesP.imp h fun s c' hc => hi s c' (by simp [hc])⟩
theorem nodesP.append {T : Nat → Prop} {w : World} : ∀ {l : KV} {G : List Cm} {p : ByteArray × Value} {c : Cm}, nodesP T w l G → nodeP T w p c → nodesP T w (l ++ [p]) (G ++ [c])
  | [], [], _, _, _, h => ⟨h, trivial⟩
  | _ :: _, _ :: _, _, _, ⟨h1, h2⟩, h => ⟨h1, nodesP.append h2 h⟩
theorem nodesP.length {T : Nat → Prop} {w : World} : ∀ {l : KV} {G : List Cm}, nodesP T w l G → l.length = G.length
  | [], [], _ => rfl
  | _ :: _, _ :: _, ⟨_, h⟩ => by simp [nodesP.length h]
def idsOf (G : List Cm) : List ByteArray := G.map (·.id)
theorem nodesP.keys {T : Nat → Prop} {w : World} : ∀ {l : KV} {G : List Cm}, nodesP T w l G → keysOf l = idsOf G
  | [], [], _ => rfl
  | _ :: _, _ :: _, ⟨⟨h1, _⟩, h⟩ => by simp [keysOf, idsOf, h1]; exact nodesP.keys h
def cmOf (G : List Cm) (k : ByteArray) : Option Cm := G.find? fun c => c.id == k
theorem cmOf_none {G : List Cm} {k : ByteArray} : cmOf G k = none ↔ k ∉ idsOf G := by
  unfold cmOf idsOf
  simp only [List.find?_eq_none, List.mem_map, not_exists, not_and]
  constructor
  · intro h p hp e
    exact h p hp (by rw [e]; simp)
  · intro h p hp e
    exact h p hp (by simpa using e)
theorem cmOf_mem {G : List Cm} {k : ByteArray} {c : Cm} (h : cmOf G k = some c) : c ∈ G ∧ c.id = k := ⟨List.mem_of_find?_eq_some h, by simpa using List.find?_some h⟩
theorem cmOf_some {G : List Cm} {k : ByteArray} (h : k ∈ idsOf G) : ∃ c, cmOf G k = some c := by
  cases hc : cmOf G k with
  | none => exact absurd h (cmOf_none.1 hc)
  | some c => exact ⟨c, rfl⟩
def noNode : Value := .agg #[.slice none 0 0, .int .i64 0]
theorem nodesP.lk {T : Nat → Prop} {w : World} (k : ByteArray) : ∀ {l : KV} {G : List Cm}, nodesP T w l G → (lkv l k = none ∧ cmOf G k = none) ∨ ∃ c v, lkv l k = some v ∧ cmOf G k = some c ∧ nodeP T w (k, v) c
  | [], [], _ => .inl ⟨rfl, rfl⟩
  | p :: l, c :: G, ⟨⟨h1, h2⟩, h⟩ => by
    by_cases e : p.1 = k
    · refine .inr ⟨c, p.2, by simp [lkv, e], by simp [cmOf, ← h1, e], e ▸ h1, h2⟩
    · have e' : ¬ c.id = k := h1 ▸ e
      have a : lkv (p :: l) k = lkv l k := by simp [lkv, e]
      have b : cmOf (c :: G) k = cmOf G k := by simp [cmOf, e']
      rw [a, b]
      exact nodesP.lk k h
/-- v is a graph with the commits G; all its memory is in T. -/
def PG (w : World) (T : Nat → Prop) (v : Value) (G : List Cm) : Prop :=
  ∃ gb mb l, v = .pointer (some ⟨gb, 0, none⟩) ∧ T gb ∧ T mb ∧ w.cell? ⟨gb, 0, none⟩ = some (.map (some mb)) ∧ MapAt w mb l ∧ nodesP T w l G
theorem PG.ext {w w' : World} {T : Nat → Prop} {v : Value} {G : List Cm} (h : PG w T v G) (hE : Ext w w') : PG w' T v G := by
  obtain ⟨gb, mb, l, h1, h2, h3, h4, h5, h6⟩ := h
  exact ⟨gb, mb, l, h1, h2, h3, hE.cell h4, h5.ext hE, h6.imp fun s c _ h => h.ext hE⟩
theorem PG.mod {w w' : World} {T U : Nat → Prop} {v : Value} {G : List Cm} (h : PG w T v G) (hm : ModIn U w w') (hd : ∀ k, T k → ¬ U k) : PG w' T v G := by
  obtain ⟨gb, mb, l, h1, h2, h3, h4, ⟨es, c, g1, g2, g3⟩, h6⟩ := h
  exact ⟨gb, mb, l, h1, h2, h3, hm.cell (hd gb h2) h4, ⟨es, c, (hm.block mb (Array.getElem?_eq_some_iff.1 g1).1 (hd mb h3)).trans g1, g2, g3⟩, h6.imp fun s c _ h => h.mod hm hd⟩
theorem PG.mono {w : World} {T U : Nat → Prop} {v : Value} {G : List Cm} (h : PG w T v G) (hT : ∀ k, k < w.heap.size → T k → U k) : PG w U v G := by
  obtain ⟨gb, mb, l, h1, h2, h3, h4, h5, h6⟩ := h
  exact ⟨gb, mb, l, h1, hT _ (World.block_lt_of_cell? w _ h4) h2, hT _ h5.lt h3, h4, h5, h6.imp fun s c _ h => h.mono hT⟩
theorem PG.nodup {w : World} {T : Nat → Prop} {v : Value} {G : List Cm} (h : PG w T v G) : (idsOf G).Nodup := by
  obtain ⟨gb, mb, l, h1, h2, h3, h4, h5, h6⟩ := h
  rw [← h6.keys]
  exact h5.nodup
theorem u_nodes : Try.prog.underlying 90 = some (.map 9 94) := by kernel_rfl
theorem u_ints : Try.prog.underlying 77 = some (.map 9 3) := by kernel_rfl
theorem u_str : Try.prog.underlying 9 = some .string := by kernel_rfl
theorem zero_node (w : World) : (zeroValue 94).run Try.prog w = .ok noNode w := by kernel_rfl
theorem zero_int (w : World) : (zeroValue 3).run Try.prog w = .ok (.int .i64 0) w := by kernel_rfl
theorem run_fieldG (gb : Nat) (w : World) : (Instr.fieldAt 92 (.pointer (some ⟨gb, 0, none⟩)) 0).run Try.prog w = .ok (.pointer (some ⟨gb, 0, none⟩)) w := by
  simp [go_sem, Instr.fieldAt]
theorem run_loadG {gb mb : Nat} {w : World} (h : w.cell? ⟨gb, 0, none⟩ = some (.map (some mb))) : (Instr.loadAt 90 (.pointer (some ⟨gb, 0, none⟩))).run Try.prog w = .ok (.map (some mb)) w := by
  simp [go_sem, Instr.loadAt, h]
theorem run_node1 (s : Value) (hs : ∃ a n c, s = .slice a n c) (x : Int) (w : World) : (Instr.field 94 (.agg #[s, .int .i64 x]) 1).run Try.prog w = .ok (.int .i64 x) w := by
  obtain ⟨a, n, c, rfl⟩ := hs
  simp [go_sem, Instr.field, asAgg]
theorem run_node0 (s : Value) (hs : ∃ a n c, s = .slice a n c) (x : Int) (w : World) : (Instr.field 94 (.agg #[s, .int .i64 x]) 0).run Try.prog w = .ok s w := by
  obtain ⟨a, n, c, rfl⟩ := hs
  simp [go_sem, Instr.field, asAgg]
/-- What a look-up of a commit tells. -/
theorem PG.get {w : World} {T : Nat → Prop} {v : Value} {G : List Cm} (h : PG w T v G) :
    ∃ gb mb, v = .pointer (some ⟨gb, 0, none⟩) ∧ T gb ∧ T mb ∧ (Instr.loadAt 90 (.pointer (some ⟨gb, 0, none⟩))).run Try.prog w = .ok (.map (some mb)) w ∧
      ∀ k, ∃ s x, (Instr.lookup 90 (.map (some mb)) (.string k) false).run Try.prog w = .ok (.agg #[s, .int .i64 x]) w ∧ (∃ a n c, s = .slice a n c) ∧
        (Instr.lookup 90 (.map (some mb)) (.string k) true).run Try.prog w = .ok (.tuple #[.agg #[s, .int .i64 x], .bool (decide (k ∈ idsOf G))]) w ∧
        RowIn T w s (strsV ((cmOf G k).elim [] (·.ps))) ∧ x = (cmOf G k).elim 0 (·.st) := by
  obtain ⟨gb, mb, l, rfl, h2, h3, h4, h5, h6⟩ := h
  refine ⟨gb, mb, rfl, h2, h3, run_loadG h4, fun k => ?_⟩
  have e1 := h5.lookup u_nodes u_str (zero_node w) k
  have e2 := h5.lookupOk u_nodes u_str (zero_node w) k
  rw [h6.keys] at e2
  rcases h6.lk k with ⟨g1, g2⟩ | ⟨c, v, g1, g2, g3, s, g4, g5⟩
  · rw [g1] at e1 e2
    rw [g2]
    exact ⟨.slice none 0 0, 0, e1, ⟨_, _, _, rfl⟩, e2, RowIn.nil _ _ _, rfl⟩
  · rw [g1] at e1 e2
    rw [g2]
    simp only at g4
    subst g4
    obtain ⟨a, cc, hs, _⟩ := g5.1
    exact ⟨s, c.st, e1, ⟨_, _, _, hs⟩, e2, g5, rfl⟩

theorem new_spec {w : World} : Call Try.prog 19 #[] w fun v w' => Ext w w' ∧ PG w' (fun k => w.heap.size ≤ k) v [] := by
  refine vc19 (_u := ()) ?_
  unfold V19
  refine does_of (run_makeMap' _ w) ?_
  simp [go_sem, Instr.build, Instr.box]
  refine ⟨((Ext.refl w).alloc _).alloc _, w.heap.size + 1, w.heap.size, [], by simp, by simp, Nat.le_refl _, ?_, (map_made w).ext ((Ext.refl _).alloc _), trivial⟩
  simp [go_sem]
theorem dlen_spec {w : World} {T : Nat → Prop} {v : Value} {G : List Cm} (h : PG w T v G) : Call Try.prog 25 #[v] w fun v w' => v = .int .i64 G.length ∧ w' = w := by
  obtain ⟨gb, mb, l, rfl, h2, h3, h4, h5, h6⟩ := h
  apply vc25
  unfold V25
  rw [nilP_some]
  refine does_of (run_fieldG gb w) (does_of (run_loadG h4) (does_of (h5.len u_nodes _) ⟨?_, rfl⟩))
  rw [h6.length]; rfl
theorem dhas_spec {w : World} {T : Nat → Prop} {v : Value} {G : List Cm} {k : ByteArray} (h : PG w T v G) :
    Call Try.prog 26 #[v, .string k] w fun v w' => v = .bool (decide (k ∈ idsOf G)) ∧ Ext w w' := by
  obtain ⟨gb, mb, rfl, h2, h3, hl, hk⟩ := h.get
  obtain ⟨s, x, _, ⟨a, n, c, rfl⟩, h5, _⟩ := hk k
  apply vc26
  unfold V26
  rw [nilP_some]
  refine does_of (run_fieldG gb w) (does_of hl (does_of h5 (does_extract rfl (does_extract rfl ?_))))
  simp [go_sem, Instr.alloc, Instr.storeAt]
  exact (Ext.refl w).alloc _
theorem dstamp_spec {w : World} {T : Nat → Prop} {v : Value} {G : List Cm} {k : ByteArray} (h : PG w T v G) :
    Call Try.prog 28 #[v, .string k] w fun v w' => v = .int .i64 ((cmOf G k).elim (-1) (·.st)) ∧ Ext w w' := by
  apply vc28
  unfold V28
  refine (dhas_spec h).mono fun v1 w1 ⟨hv, hE⟩ => ?_
  subst hv
  refine does_of (run_not w1) (condP_of (fun hn => ?_) fun hy => ?_)
  · simp at hn
    rw [cmOf_none.2 hn]
    exact ⟨rfl, hE⟩
  · simp at hy
    obtain ⟨c, hc⟩ := cmOf_some hy
    obtain ⟨gb, mb, rfl, h2, h3, hl, hk⟩ := (h.ext hE).get
    obtain ⟨s, x, h4, hs, _, _, hx⟩ := hk k
    rw [nilP_some]
    refine does_of (run_fieldG gb w1) (does_of hl (does_of h4 (does_of (run_node1 s hs x w1) ⟨?_, hE⟩)))
    rw [hx, hc]; rfl
theorem dparents_spec {w : World} {T : Nat → Prop} {v : Value} {G : List Cm} {k : ByteArray} (h : PG w T v G) (hb : ∀ c ∈ G, c.ps.length ≤ 1099511627776) :
    Call Try.prog 30 #[v, .string k] w fun v w' => Own w' w.heap.size 9 v (strsV ((cmOf G k).elim [] (·.ps))) ∧ Ext w w' := by
  apply vc30
  unfold V30
  obtain ⟨gb, mb, rfl, h2, h3, hl, hk⟩ := h.get
  obtain ⟨s, x, h4, hs, _, hr, _⟩ := hk k
  rw [nilP_some]
  refine does_of (run_fieldG gb w) (does_of hl (does_of h4 (does_of (run_node0 s hs x w) ?_)))
  refine clone_spec hr.row ?_
  cases hc : cmOf G k with
  | none => simp
  | some c => exact hb c (cmOf_mem hc).1

/-! ### 3. a commit added -/
def topOf (G : List Cm) (ps : List ByteArray) : Int := ps.foldl (fun t p => max t ((cmOf G p).elim 0 (·.st))) (-1)
def known (G : List Cm) (ps : List ByteArray) : Bool := ps.all fun p => decide (p ∈ idsOf G)
def addG (G : List Cm) (id : ByteArray) (ps : List ByteArray) (st : Int) : Int × List Cm :=
  if id = ⟨#[]⟩ then (6, G) else if id ∈ idsOf G then (8, G) else if known G ps = false then (7, G) else if st ≤ topOf G ps then (1, G) else if 2000 ≤ G.length then (14, G) else (0, G ++ [⟨id, usort ps, st⟩])
theorem run_max {P : Program} {t ty : TypeId} {a b : Int} (ht : P.underlying t = some (.int .i64)) (w : World) : (Builtin.max_ #[t, t] ty #[.int .i64 a, .int .i64 b]).run P w = .ok (.int .i64 (max a b)) w := by
  simp only [Builtin.max_, go_sem]
  simp [Builtin.max2]
  omega
theorem take_succ {α : Type} {l : List α} {i : Nat} (h : i < l.length) : l.take (i + 1) = l.take i ++ [l[i]] := List.take_succ_eq_append_getElem h
theorem dadd_spec {w : World} {T : Nat → Prop} {gv pv : Value} {G : List Cm} {id : ByteArray} {ps : List ByteArray} {st : Int} (h : PG w T gv G) (hr : Row w pv (strsV ps)) (hl : ps.length ≤ 1099511627776) :
    Call Try.prog 22 #[gv, .string id, pv, .int .i64 st] w fun v w' => v = .int .i64 (addG G id ps st).1 ∧ ModIn T w w' ∧ PG w' (fun k => T k ∨ w.heap.size ≤ k) gv (addG G id ps st).2 := by
  apply vc22
  unfold V22
  have same : ∀ {w' : World}, Ext w w' → ModIn T w w' ∧ PG w' (fun k => T k ∨ w.heap.size ≤ k) gv G := fun hE => ⟨ModIn.ofExt hE, (h.ext hE).mono fun k _ hk => .inl hk⟩
  unfold addG
  refine does_eqS (condP_of (fun he => ?_) fun he => ?_)
  · simp only [decide_eq_true_eq] at he
    rw [if_pos he]
    exact ⟨rfl, same (Ext.refl w)⟩
  simp only [decide_eq_false_iff_not] at he
  rw [if_neg he]
  refine (dhas_spec h).mono fun v1 w1 ⟨hv1, hE1⟩ => ?_
  subst hv1
  refine condP_of (fun hi => ?_) fun hi => ?_
  · simp only [decide_eq_true_eq] at hi
    rw [if_pos hi]
    exact ⟨rfl, same hE1⟩
  simp only [decide_eq_false_iff_not] at hi
  rw [if_neg hi]
  refine (hr.ext hE1).len u_strs ?_
  refine rounds2 (σ := Int × Nat) (fun s => .int .i64 s.1) (fun s => .int .i64 s.2) (fun s W => s.2 ≤ ps.length ∧ Ext w W ∧ known G (ps.take s.2) = true ∧ s.1 = topOf G (ps.take s.2)) (fun s _ => ps.length - s.2) (-1, 0) rfl rfl ⟨by simp, hE1, by simp [known], by simp [topOf]⟩ ?_
  rintro next ⟨top, i⟩ w2 ⟨hi2, hE2, hkn, htop⟩ hnext _
  simp only at hi2 hE2 hkn htop ⊢
  refine does_lt (condP_of (fun hlt => ?_) fun hge => ?_)
  · simp only [strsV_length, decide_eq_true_eq, Int.ofNat_lt] at hlt
    refine (hr.ext hE2).index u_strs sz_str (by simpa using hlt) fun p hp => does_load1 agg_str hp ?_
    rw [strsV_get hlt]
    refine (dhas_spec (h.ext hE2)).mono fun v3 w3 ⟨hv3, hE3⟩ => ?_
    subst hv3
    refine does_of (run_not w3) (condP_of (fun hn => ?_) fun hn => ?_)
    · simp at hn
      have : known G ps = false := by
        unfold known
        rw [List.all_eq_false]
        exact ⟨ps[i], by simp, by simpa using hn⟩
      rw [if_pos this]
      exact ⟨rfl, same (hE2.trans hE3)⟩
    · simp at hn
      obtain ⟨gb, mb, rfl, h2, h3, hlo, hk⟩ := (h.ext (hE2.trans hE3)).get
      obtain ⟨s, x, h4, hs, _, _, hx⟩ := hk ps[i]
      rw [nilP_some]
      refine does_of (run_fieldG gb w3) (does_of hlo (does_of h4 (does_of (run_node1 s hs x w3) (does_of (run_max (by kernel_rfl) w3) (does_add (by omega) (by omega) ?_)))))
      refine hnext (max top x, i + 1) _ _ w3 rfl (by simp) ⟨by simp only; omega, hE2.trans hE3, ?_, ?_⟩ (by simp only; omega)
      · simp only [take_succ hlt]
        unfold known at hkn ⊢
        rw [List.all_append, hkn]
        simp [hn]
      · simp only [take_succ hlt]
        unfold topOf at htop ⊢
        rw [List.foldl_append, ← htop, hx]
        rfl
  · simp only [strsV_length, decide_eq_false_iff_not, Int.ofNat_lt] at hge
    have hii : i = ps.length := by omega
    subst hii
    rw [List.take_length] at hkn htop
    have hkn' : ¬ known G ps = false := by simp [hkn]
    rw [if_neg hkn', ← htop]
    refine does_le (condP_of (fun hs => ?_) fun hs => ?_)
    · simp only [decide_eq_true_eq] at hs
      rw [if_pos hs]
      exact ⟨rfl, same hE2⟩
    simp only [decide_eq_false_iff_not] at hs
    rw [if_neg hs]
    obtain ⟨gb, mb, l, rfl, h2, h3, h4, h5, h6⟩ := h
    rw [nilP_some]
    refine does_of (run_fieldG gb w2) (does_of (run_loadG (hE2.cell h4)) (does_of ((h5.ext hE2).len u_nodes _) ?_))
    rw [h6.length]
    refine does_ge (condP_of (fun hg => ?_) fun hg => ?_)
    · have : 2000 ≤ G.length := by simp only [decide_eq_true_eq] at hg; omega
      rw [if_pos this]
      exact ⟨rfl, same hE2⟩
    have hG : ¬ 2000 ≤ G.length := by
      intro h
      simp only [decide_eq_false_iff_not] at hg
      exact hg (by omega)
    rw [if_neg hG]
    have hmb : mb < w.heap.size := h5.lt
    have hgb : gb < w.heap.size := World.block_lt_of_cell? w _ h4
    have hgm : gb ≠ mb := h5.nocell h4
    refine p22_17 Ext (ModIn fun k => k = mb)
      (fun n W => match n with
        | 0 => Ext w W
        | _ + 1 => ModIn T w W ∧ PG W (fun k => T k ∨ w.heap.size ≤ k) (.pointer (some ⟨gb, 0, none⟩)) (G ++ [⟨id, usort ps, st⟩]))
      (fun v W => v = .pointer (some ⟨gb, 0, none⟩)) (fun v W => v = .pointer (some ⟨gb, 0, none⟩)) (fun v W => v = .map (some mb)) (fun v W => Own W w.heap.size 9 v (strsV (usort ps)))
      (fun v W => ∃ s, v = .agg #[s, .int .i64 st] ∧ Own W w.heap.size 9 s (strsV (usort ps)))
      Ext.refl (fun A B h => ModIn.ofExt h) (ModIn.refl _) (fun A B D h k => ModIn.trans h k (fun n hn _ => hn)) (FSt.pure _) (FSt.pure _) (FSt.pure _) (FSt.own _ _ _) (fun v A B h ⟨s, h1, h2⟩ => ⟨s, h1, h2.ext h⟩) ?_ ?_ ?_ ?_ ?_ ?_ ?_ ?_
    · exact hE2.trans (Ext.drawn w2)
    · intro W _ hC
      rw [nilP_some]
      exact ⟨Ext.refl _, hC, rfl⟩
    · rintro t W _ hC rfl
      exact does_of (run_fieldG gb W) ⟨Ext.refl _, hC, rfl⟩
    · rintro t W _ hC rfl
      exact does_of (run_loadG (Ext.cell hC h4)) ⟨Ext.refl _, hC, rfl⟩
    · intro W _ hC
      have hC' : Ext w W := hC
      exact (unique_spec (hr.ext hC') hl).mono fun v W' ⟨h1, h2⟩ => ⟨h2, hC'.trans h2, h1.mono hC'.size⟩
    · intro t W _ hC ho
      obtain ⟨a, c, hs⟩ := ho.slice
      refine does_of (v := .agg #[t, .int .i64 st]) ?_ ⟨Ext.refl _, hC, t, rfl, ho⟩
      subst hs
      simp [go_sem, Instr.build]
    · rintro t53 t58 W _ hC rfl ⟨s, rfl, ho⟩
      have hC' : Ext w W := hC
      obtain ⟨W', hrun, hm, hmod, hsz⟩ := (h5.ext hC').update u_nodes u_str id (.agg #[s, .int .i64 st])
      have keep : ∀ v, Own W w.heap.size 9 v (strsV (usort ps)) → Own W' w.heap.size 9 v (strsV (usort ps)) := fun v hv => by
        refine hmod.own hv ?_
        cases hb : v.ownBlock with
        | none => exact .inl rfl
        | some b => exact .inr (fun e => by cases e; have := hv.ge _ hb; omega)
      refine does_of hrun ⟨ModIn.ofMod hmod rfl, ⟨?_, ?_⟩, trivial, fun v h => h, fun v h => h, fun v h => h, keep, fun v ⟨s, h1, h2⟩ => ⟨s, h1, keep s h2⟩, trivial⟩
      · exact ModIn.trans (T := T) (U := T) (ModIn.ofExt hC') (ModIn.ofMod hmod h3) fun n hn _ => hn
      · refine ⟨gb, mb, ins l id (.agg #[s, .int .i64 st]), rfl, .inl h2, .inl h3, hmod.cell (hC'.cell h4) (fun e => hgm (by cases e; rfl)), hm, ?_⟩
        rw [ins_new (by rw [h6.keys]; exact hi)]
        have hin := hC'.size
        have hmodI : ModIn (fun k => k = mb) W W' := ModIn.ofMod hmod rfl
        refine nodesP.append (h6.imp fun s' c _ hrow => ?_) ⟨rfl, s, rfl, (keep s ho).rowIn fun k hk _ => .inr hk⟩
        obtain ⟨a, cc, hv, hl2, hcell⟩ := hrow.1
        refine ⟨⟨a, cc, hv, hl2, fun j x hj => ?_⟩, fun a' n' c' hv' hx => .inl (hrow.2 a' n' c' hv' hx)⟩
        obtain ⟨ad, g1, g2⟩ := hcell j x hj
        exact ⟨ad, g1, hmodI.cell (h5.nocell g2) (hC'.cell g2)⟩
    · intro W _ hC _
      exact ⟨rfl, hC⟩
end Go.Proofs.Ytcncgkkilgmphaa
