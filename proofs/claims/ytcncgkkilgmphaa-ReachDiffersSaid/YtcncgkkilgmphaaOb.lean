/-
  Objects in memory.
-/
import Derived.Test.YtcncgkkilgmphaaPo
set_option linter.unusedVariables false
set_option linter.unusedSimpArgs false
namespace Go.Proofs.Ytcncgkkilgmphaa
open Go Go.RowKit

def cellsI (x : It) : List Value := [.int .i64 x.mode, .string x.name, .string x.id]
def itV (l : List It) : List Value := l.flatMap cellsI
@[simp] theorem itV_length (l : List It) : (itV l).length = l.length * 3 := by
  unfold itV
  induction l with
  | nil => rfl
  | cons x l ih => simp only [List.flatMap_cons, List.length_append, ih, List.length_cons]; simp [cellsI]; omega
theorem itV_append (a b : List It) : itV (a ++ b) = itV a ++ itV b := by simp [itV]
theorem itV_get : ∀ {l : List It} {i : Nat} {x : It}, l[i]? = some x → (itV l)[i * 3]? = some (.int .i64 x.mode) ∧ (itV l)[i * 3 + 1]? = some (.string x.name) ∧ (itV l)[i * 3 + 2]? = some (.string x.id)
  | [], i, x, h => by simp at h
  | y :: l, 0, x, h => by
    simp at h
    subst h
    simp [itV, cellsI]
  | y :: l, i + 1, x, h => by
    obtain ⟨h1, h2, h3⟩ := itV_get (l := l) (i := i) (x := x) (by simpa using h)
    have e : itV (y :: l) = cellsI y ++ itV l := by simp [itV]
    rw [e]
    have hl : (cellsI y).length = 3 := rfl
    rw [List.getElem?_append_right (by omega), List.getElem?_append_right (by omega), List.getElem?_append_right (by omega), hl]
    refine ⟨?_, ?_, ?_⟩
    · rw [← h1]; congr 1; omega
    · rw [← h2]; congr 1; omega
    · rw [← h3]; congr 1; omega
/-- v is a slice of rows of a tree -/
def IR (w : World) (v : Value) (l : List It) : Prop :=
  ∃ a c, v = .slice a l.length c ∧ l.length ≤ maxLen ∧ l.length ≤ c ∧ ∀ j x, (itV l)[j]? = some x → ∃ ad : Addr, a = some ad ∧ w.cell? (ad.add j) = some x
theorem IR.ext {w w' : World} {v : Value} {l : List It} (h : IR w v l) (hE : Ext w w') : IR w' v l := by
  obtain ⟨a, c, h1, h2, h3, h4⟩ := h
  exact ⟨a, c, h1, h2, h3, fun j x hj => let ⟨ad, g1, g2⟩ := h4 j x hj; ⟨ad, g1, hE.cell g2⟩⟩
theorem IR.nil (w : World) (a : Option Addr) (c : Nat) : IR w (.slice a 0 c) [] := ⟨a, c, rfl, by simp, by simp, fun j x h => by simp [itV] at h⟩
theorem IR.slice {w : World} {v : Value} {l : List It} (h : IR w v l) : ∃ a c, v = .slice a l.length c := let ⟨a, c, hv, _⟩ := h; ⟨a, c, hv⟩
theorem IR.le {w : World} {v : Value} {l : List It} (h : IR w v l) : l.length ≤ 9223372036854775807 := by
  obtain ⟨a, c, _, h2, _⟩ := h
  simpa [maxLen] using h2
structure IsOb (w : World) (dv iv pv : Value) (o : Ob) : Prop where
  data : Row w dv (bytesV o.data)
  items : IR w iv o.items
  pars : Row w pv (strsV o.parents)
theorem IsOb.ext {w w' : World} {dv iv pv : Value} {o : Ob} (h : IsOb w dv iv pv o) (hE : Ext w w') : IsOb w' dv iv pv o := ⟨h.data.ext hE, h.items.ext hE, h.pars.ext hE⟩
def ObC (dv iv pv : Value) (o : Ob) : Array Value := #[.int .i64 o.kind, dv, iv, .string o.tree, pv, .int .i64 o.stamp, .int .i64 o.author, .string o.msg]
def ObV (dv iv pv : Value) (o : Ob) : Value := .agg (ObC dv iv pv o)
theorem IsOb.forms {w : World} {dv iv pv : Value} {o : Ob} (h : IsOb w dv iv pv o) : ∃ a1 n1 c1 a2 n2 c2 a3 n3 c3, dv = .slice a1 n1 c1 ∧ iv = .slice a2 n2 c2 ∧ pv = .slice a3 n3 c3 := by
  obtain ⟨a1, c1, h1⟩ := h.data.slice
  obtain ⟨a2, c2, h2⟩ := h.items.slice
  obtain ⟨a3, c3, h3⟩ := h.pars.slice
  exact ⟨a1, _, c1, a2, _, c2, a3, _, c3, h1, h2, h3⟩
def OBlk (w : World) (b : Nat) (t : TypeId) (dv iv pv : Value) (o : Ob) : Prop := w.heap[b]? = some (.cells (ObC dv iv pv o) t)
theorem OBlk.ext {w w' : World} {b : Nat} {t : TypeId} {dv iv pv : Value} {o : Ob} (h : OBlk w b t dv iv pv o) (hE : Ext w w') : OBlk w' b t dv iv pv o := hE.block h
theorem OBlk.lt {w : World} {b : Nat} {t : TypeId} {dv iv pv : Value} {o : Ob} (h : OBlk w b t dv iv pv o) : b < w.heap.size := (Array.getElem?_eq_some_iff.1 h).1
theorem OBlk.new (w : World) (t : TypeId) (dv iv pv : Value) (o : Ob) : OBlk (w.alloc (.cells (ObC dv iv pv o) t)) w.heap.size t dv iv pv o := heap_alloc_new w _
theorem OBlk.cell {w : World} {b : Nat} {t : TypeId} {dv iv pv : Value} {o : Ob} (h : OBlk w b t dv iv pv o) :
    w.cell? ⟨b, 0, none⟩ = some (.int .i64 o.kind) ∧ w.cell? ⟨b, 1, none⟩ = some dv ∧ w.cell? ⟨b, 2, none⟩ = some iv ∧ w.cell? ⟨b, 3, none⟩ = some (.string o.tree) ∧ w.cell? ⟨b, 4, none⟩ = some pv ∧ w.cell? ⟨b, 5, none⟩ = some (.int .i64 o.stamp) ∧
    w.cell? ⟨b, 6, none⟩ = some (.int .i64 o.author) ∧ w.cell? ⟨b, 7, none⟩ = some (.string o.msg) ∧ ∀ i, w.frozen? ⟨b, i, none⟩ = false := by
  unfold OBlk ObC at h
  simp [World.cell?, World.frozen?, h]
/-! ### whole structs stored -/
theorem run_storeAll {P : Program} {t : TypeId} {w : World} {b : Nat} {cur : Array Value} {v : Value} {n : Nat} (hs : ∀ w, (sizeOf t).run P w = .ok n w) (hb : w.heap[b]? = some (.cells cur t)) (hcur : cur.size = n) (hn : v.cells.size = n) (h1 : ∀ u ∈ v.cells.toList, u.oneCell' = true) :
    (Instr.storeAt t (.pointer (some ⟨b, 0, none⟩)) v).run P w = .ok () (w.setRow b v.cells) := by
  have h := run_storeCells_at P b 0 t v.cells.toList 0 cur w hb (by simp; omega) h1
  simp only [Instr.storeAt, Instr.sureAddr, Sem.run_bind, Sem.run_pure, Result.andThen_ok, storeVar, hs, hn, ne_eq, not_true_eq_false, if_false]
  rw [h]
  congr 2
  simp [List.drop_of_length_le, hcur, hn]
theorem setRow_mod {w : World} {b : Nat} (cs : Array Value) : Mod (some b) w (w.setRow b cs) := by
  refine ⟨rfl, rfl, rfl, by simp [World.setRow], fun k hk hne => ?_⟩
  exact setRow_other w b k cs (fun h => hne (by rw [h]))
theorem OBlk.set1 {w : World} {b : Nat} {t : TypeId} {dv iv pv : Value} {o : Ob} (h : OBlk w b t dv iv pv o) (l : List UInt8) (x : Value) : OBlk (w.setCell ⟨b, 1, none⟩ x) b t x iv pv { o with data := l } := by
  unfold OBlk ObC at *
  simp only [World.setCell, Array.getElem?_modify, if_true, h, Option.map_some]
  rfl
theorem OBlk.set2 {w : World} {b : Nat} {t : TypeId} {dv iv pv : Value} {o : Ob} (h : OBlk w b t dv iv pv o) (l : List It) (x : Value) : OBlk (w.setCell ⟨b, 2, none⟩ x) b t dv x pv { o with items := l } := by
  unfold OBlk ObC at *
  simp only [World.setCell, Array.getElem?_modify, if_true, h, Option.map_some]
  rfl
theorem OBlk.set3 {w : World} {b : Nat} {t : TypeId} {dv iv pv : Value} {o : Ob} (h : OBlk w b t dv iv pv o) (x : ByteArray) : OBlk (w.setCell ⟨b, 3, none⟩ (.string x)) b t dv iv pv { o with tree := x } := by
  unfold OBlk ObC at *
  simp only [World.setCell, Array.getElem?_modify, if_true, h, Option.map_some]
  rfl
theorem OBlk.set4 {w : World} {b : Nat} {t : TypeId} {dv iv pv : Value} {o : Ob} (h : OBlk w b t dv iv pv o) (l : List ByteArray) (x : Value) : OBlk (w.setCell ⟨b, 4, none⟩ x) b t dv iv x { o with parents := l } := by
  unfold OBlk ObC at *
  simp only [World.setCell, Array.getElem?_modify, if_true, h, Option.map_some]
  rfl
theorem OBlk.set5 {w : World} {b : Nat} {t : TypeId} {dv iv pv : Value} {o : Ob} (h : OBlk w b t dv iv pv o) (x : Int) : OBlk (w.setCell ⟨b, 5, none⟩ (.int .i64 x)) b t dv iv pv { o with stamp := x } := by
  unfold OBlk ObC at *
  simp only [World.setCell, Array.getElem?_modify, if_true, h, Option.map_some]
  rfl
theorem OBlk.set6 {w : World} {b : Nat} {t : TypeId} {dv iv pv : Value} {o : Ob} (h : OBlk w b t dv iv pv o) (x : Int) : OBlk (w.setCell ⟨b, 6, none⟩ (.int .i64 x)) b t dv iv pv { o with author := x } := by
  unfold OBlk ObC at *
  simp only [World.setCell, Array.getElem?_modify, if_true, h, Option.map_some]
  rfl
theorem OBlk.set7 {w : World} {b : Nat} {t : TypeId} {dv iv pv : Value} {o : Ob} (h : OBlk w b t dv iv pv o) (x : ByteArray) : OBlk (w.setCell ⟨b, 7, none⟩ (.string x)) b t dv iv pv { o with msg := x } := by
  unfold OBlk ObC at *
  simp only [World.setCell, Array.getElem?_modify, if_true, h, Option.map_some]
  rfl
theorem OBlk.mod {w w' : World} {b : Nat} {t : TypeId} {dv iv pv : Value} {o : Ob} {row : Option Nat} (h : OBlk w b t dv iv pv o) (hm : Mod row w w') (hne : some b ≠ row) : OBlk w' b t dv iv pv o := (hm.block b h.lt hne).trans h
/-! ### rows of a tree that are the call's own -/
def Own3 (w : World) (base : Nat) (e : TypeId) (v : Value) (l : List It) : Prop := w.ownsRow base e 3 v l.length (itV l)
theorem Own3.nil (w : World) (base : Nat) (e : TypeId) : Own3 w base e (.slice none 0 0) [] := ⟨by simp, .inl ⟨rfl, rfl⟩⟩
theorem Own3.row {w : World} {base : Nat} {e : TypeId} {v : Value} {l : List It} (h : Own3 w base e v l) : IR w v l := by
  rcases h.2 with ⟨rfl, h0⟩ | ⟨g, cap, cur, rfl, hb, hg, hn, hm, hs, ht⟩
  · have : l = [] := List.eq_nil_of_length_eq_zero h0
    subst this
    exact IR.nil _ _ _
  · exact ⟨_, _, rfl, by omega, hn, fun j x hj => ⟨_, rfl, h.cells (g := g) rfl j x hj⟩⟩
theorem Own3.kept {w w' : World} {base : Nat} {e : TypeId} {v : Value} {l : List It} {row : Option Nat} (h : Own3 w base e v l) (hg : w.grownBy w' row) (hne : v.ownBlock = none ∨ v.ownBlock ≠ row) : Own3 w' base e v l := World.ownsRow.kept h hg hne
theorem Own3.ext {w w' : World} {base : Nat} {e : TypeId} {v : Value} {l : List It} (h : Own3 w base e v l) (hE : Ext w w') : Own3 w' base e v l :=
  h.kept (row := none) ⟨hE.os, hE.tape, hE.output, Below.size hE, fun i hi _ => Below.block hE i hi⟩ (by cases v.ownBlock <;> simp)
theorem Own3.lt {w : World} {base : Nat} {e : TypeId} {v : Value} {l : List It} (h : Own3 w base e v l) : ∀ k, v.ownBlock = some k → base ≤ k ∧ k < w.heap.size := World.ownsRow.lt h
/-- a block's element type tells it from others -/
theorem Own3.block {w : World} {base : Nat} {e : TypeId} {v : Value} {l : List It} (h : Own3 w base e v l) : ∀ k, v.ownBlock = some k → ∃ cur, w.heap[k]? = some (.cells cur e) := by
  intro k hk
  rcases h.2 with ⟨rfl, h0⟩ | ⟨g, cap, cur, rfl, hb, hg, _⟩
  · simp [Value.ownBlock] at hk
  · simp [Value.ownBlock] at hk
    subst hk
    exact ⟨cur, hg⟩
theorem Own.block' {w : World} {base : Nat} {e : TypeId} {v : Value} {xs : List Value} (h : Own w base e v xs) : ∀ k, v.ownBlock = some k → ∃ cur, w.heap[k]? = some (.cells cur e) := by
  intro k hk
  rcases h.2 with ⟨rfl, h0⟩ | ⟨g, cap, cur, rfl, hb, hg, _⟩
  · simp [Value.ownBlock] at hk
  · simp [Value.ownBlock] at hk
    subst hk
    exact ⟨cur, hg⟩
end Go.Proofs.Ytcncgkkilgmphaa
