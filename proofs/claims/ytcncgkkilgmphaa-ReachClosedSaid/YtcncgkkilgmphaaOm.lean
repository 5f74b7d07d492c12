/-
  Contract: obj.read, the whole.
-/
import Derived.Test.YtcncgkkilgmphaaOl
set_option linter.unusedVariables false
set_option linter.unusedSimpArgs false
namespace Go.Proofs.Ytcncgkkilgmphaa
open Go Go.RowKit

def RdD (w0 : World) (rb ab sb : Nat) (dv iv pv : Value) (o : Ob) (x : ByteArray) (s : Src) (k : Nat) (W : World) : Prop :=
  match k with
  | 0 => RdSt w0 W rb ab sb dv iv pv o s
  | 1 => RdSt w0 W rb ab sb dv iv pv o (hashP s).2
  | 2 => RdQ w0 W rb ab sb dv iv pv o (hashP s).2 ∧ Own3 W w0.heap.size 106 iv o.items
  | _ => ∃ pv', RdSt w0 W rb ab sb dv iv pv' { o with parents := o.parents ++ [x] } (hashP s).2
theorem RdD.ext {w0 W W' : World} {rb ab sb : Nat} {dv iv pv : Value} {o : Ob} {x : ByteArray} {s : Src} {k : Nat} (h : RdD w0 rb ab sb dv iv pv o x s k W) (hE : Ext W W') : RdD w0 rb ab sb dv iv pv o x s k W' := by
  match k, h with
  | 0, h => exact RdSt.ext h hE
  | 1, h => exact RdSt.ext h hE
  | 2, h => exact ⟨h.1.ext hE, h.2.ext hE⟩
  | n + 3, ⟨iv', h⟩ => exact ⟨iv', RdSt.ext h hE⟩
theorem RdD.q {w0 W : World} {rb ab sb : Nat} {dv iv pv : Value} {o : Ob} {x : ByteArray} {s : Src} {k : Nat} (h : RdD w0 rb ab sb dv iv pv o x s k W) (hk : k ≤ 2) : OBlk W ab 72 dv iv pv o := by
  match k, h, hk with
  | 0, h, _ => exact RdQ.kab (RdSt.q h)
  | 1, h, _ => exact RdQ.kab (RdSt.q h)
  | 2, h, _ => exact RdQ.kab h.1
theorem region94_20 {w0 W : World} {rb ab sb : Nat} {dv iv pv : Value} {o : Ob} {s : Src} {J : VF 0} (h : RdSt w0 W rb ab sb dv iv pv o s) (hl : o.parents.length ≤ 1099511627000)
    (hJ : ∀ W' pv', RdSt w0 W' rb ab sb dv iv pv' { o with parents := o.parents ++ [(hashP s).1] } (hashP s).2 → J W') :
    DrawP Try.prog 96 (opsOf Try.f94 20) [5, 6] [.pointer (some ⟨ab, 0, none⟩), .pointer (some ⟨sb, 0, none⟩)] [] J W := by
  have hE := h.q.e
  have fO := fun W => run_field_o ab W
  refine h94_20 w0 (RdD w0 rb ab sb dv iv pv o (hashP s).1 s) (FcV (.string (hashP s).1)) (fun k v W => k = 1 → Row W v (strsV [(hashP s).1]))
    (fun k v W => k = 2 → Own W w0.heap.size 9 v (strsV (o.parents ++ [(hashP s).1]))) hE (FcV.st _) (fun k v W W' hE h hk => (h hk).ext hE) (fun k v W W' hE h hk => (h hk).ext hE) (h.ext (Ext.drawn W)) ?_
  refine qx (fun W => (fO W).2.2.2.2.1) (qc (fun W' hS => by obtain ⟨_, k, _, hk, hC⟩ := hS; exact run_load1 agg_strsl (hC.q (by omega)).cell.2.2.2.2.1) (qx (fun W => (fO W).2.2.2.2.1) ⟨?_, ?_, ?_, ?_, ?_⟩))
  · intro W1 hA hC
    have hR : RdSt w0 W1 rb ab sb dv iv pv o s := hC
    refine (hashS_spec hR.q.ksb hR.q.e hR.q.gs).mono fun v W2 ⟨g1, g2, g3⟩ => ?_
    have hR2 := hR.src g3 g2
    exact ⟨⟨g3.size, hR2.q.e⟩, hR2, g1, trivial⟩
  · rintro t W1 hA hC rfl
    refine does_of (run_buildSlice1 u_strs sz_str (z := .string noS) (fun w => by kernel_rfl) rfl rfl W1) ⟨ext_any _ W1, hC.ext (ext_any _ W1), fun _ => ?_⟩
    exact (own_single (base := 0) 9 (.string (hashP s).1) (Nat.zero_le _)).row
  · intro t W1 hA hC hF
    have hR : RdSt w0 W1 rb ab sb dv iv pv o (hashP s).2 := hC
    obtain ⟨cs, hk⟩ := hR.q.ksb.kp
    refine hR.pars.append u_strs info_str rfl (hF rfl) (strsV_one _) (by simp; omega) (by omega) hR.q.e.size fun v W2 g1 g2 g3 => ?_
    have q1 := hR.pars.neK hR.q.krb (by decide)
    have q2 := hR.pars.neK hR.q.abk (by decide)
    have q3 := hR.pars.neK hk (by decide)
    have hR2 := hR.q.other g2 (fun k hk => (hR.pars.lt k hk).1) q1 q2 q3
    refine ⟨⟨g2.size, hR2.e⟩, ⟨hR2, hR.items.kept g2 ?_⟩, fun _ => by rw [strsV_append]; exact g1, (by intros; assumption), (by intros; first | omega | exact FoB.off (by omega) | exact FrB.off (by omega)), trivial⟩
    by_cases hp : iv.ownBlock = none
    · exact .inl hp
    · refine .inr fun e => ?_
      obtain ⟨b, hb⟩ := Option.ne_none_iff_exists'.1 hp
      obtain ⟨cur, hc⟩ := hR.items.block b hb
      exact hR.pars.neK (t := 106) hc (by decide) (by rw [← e, hb])
  · intro t W1 hA hC hF
    obtain ⟨hQ, hI⟩ : RdQ w0 W1 rb ab sb dv iv pv o (hashP s).2 ∧ Own3 W1 w0.heap.size 106 iv o.items := hC
    have hP := hF rfl
    obtain ⟨a, n, c, rfl⟩ := own_slice hP
    have hm := Mod.setCell W1 ab 4 (.slice a n c)
    have hQ2 := hQ.obj hm (hQ.kab.set4 (o.parents ++ [(hashP s).1]) (.slice a n c)) hQ.sl
    exact does_of (run_store1 sz_strs' rfl rfl (hQ.kab.cell.2.2.2.2.1) (hQ.kab.cell.2.2.2.2.2.2.2.2 4)) ⟨⟨hm.size, hQ2.e⟩, ⟨.slice a n c, hQ2, hI.kept hm (.inr (Ne.symm (hI.neK hQ.abk (by decide)))), hP.kept hm (.inr (Ne.symm (hP.neK hQ.abk (by decide))))⟩, trivial, (by intros; assumption), (by intros; first | omega | exact FoB.off (by omega) | exact FrB.off (by omega)), (by intros; first | omega | exact FoB.off (by omega) | exact FrB.off (by omega)), trivial⟩
  · intro W1 hA hC
    obtain ⟨pv', hR⟩ : ∃ pv', RdSt w0 W1 rb ab sb dv iv pv' { o with parents := o.parents ++ [(hashP s).1] } (hashP s).2 := hC
    exact hJ W1 pv' hR
section
variable {w0 W : World} {rb ab sb : Nat} {dv iv pv : Value} {o : Ob} {s : Src} {k : Unit → World → Prop}
/-- one cell of the object is set -/
theorem RdSt.set {dv' : Value} {o' : Ob} {i : Nat} {x : Value} (h : RdSt w0 W rb ab sb dv iv pv o s) (ha : OBlk (W.setCell ⟨ab, i, none⟩ x) ab 72 dv' iv pv o') (hd : ∃ a n c, dv' = .slice a n c) (hi : o'.items = o.items) (hp : o'.parents = o.parents) : RdSt w0 (W.setCell ⟨ab, i, none⟩ x) rb ab sb dv' iv pv o' s := by
  have hm := Mod.setCell W ab i x
  exact ⟨h.q.obj hm ha hd, by rw [hi]; exact h.items.kept hm (.inr (Ne.symm (h.items.neK h.q.abk (by decide)))), by rw [hp]; exact h.pars.kept hm (.inr (Ne.symm (h.pars.neK h.q.abk (by decide))))⟩
theorem RdSt.set3 {x : ByteArray} (h : RdSt w0 W rb ab sb dv iv pv o s) (hk : ∀ W', RdSt w0 W' rb ab sb dv iv pv { o with tree := x } s → k () W') : Does Try.prog (Instr.fieldAt 72 (.pointer (some ⟨ab, 0, none⟩)) 3) W fun t w => Does Try.prog (Instr.storeAt 9 t (.string x)) w k :=
  does_of (run_field_o ab W).2.2.2.1 (does_of (run_store1 sz_str rfl rfl h.q.kab.cell.2.2.2.1 (h.q.kab.cell.2.2.2.2.2.2.2.2 3)) (hk _ (h.set (h.q.kab.set3 x) h.q.sl rfl rfl)))
theorem RdSt.set5 {x : Int} (h : RdSt w0 W rb ab sb dv iv pv o s) (hk : ∀ W', RdSt w0 W' rb ab sb dv iv pv { o with stamp := x } s → k () W') : Does Try.prog (Instr.fieldAt 72 (.pointer (some ⟨ab, 0, none⟩)) 5) W fun t w => Does Try.prog (Instr.storeAt 3 t (.int .i64 x)) w k :=
  does_of (run_field_o ab W).2.2.2.2.2.1 (does_of (run_store1 sz_int' rfl rfl h.q.kab.cell.2.2.2.2.2.1 (h.q.kab.cell.2.2.2.2.2.2.2.2 5)) (hk _ (h.set (h.q.kab.set5 x) h.q.sl rfl rfl)))
theorem RdSt.set6 {x : Int} (h : RdSt w0 W rb ab sb dv iv pv o s) (hk : ∀ W', RdSt w0 W' rb ab sb dv iv pv { o with author := x } s → k () W') : Does Try.prog (Instr.fieldAt 72 (.pointer (some ⟨ab, 0, none⟩)) 6) W fun t w => Does Try.prog (Instr.storeAt 3 t (.int .i64 x)) w k :=
  does_of (run_field_o ab W).2.2.2.2.2.2.1 (does_of (run_store1 sz_int' rfl rfl h.q.kab.cell.2.2.2.2.2.2.1 (h.q.kab.cell.2.2.2.2.2.2.2.2 6)) (hk _ (h.set (h.q.kab.set6 x) h.q.sl rfl rfl)))
theorem RdSt.set7 {x : ByteArray} (h : RdSt w0 W rb ab sb dv iv pv o s) (hk : ∀ W', RdSt w0 W' rb ab sb dv iv pv { o with msg := x } s → k () W') : Does Try.prog (Instr.fieldAt 72 (.pointer (some ⟨ab, 0, none⟩)) 7) W fun t w => Does Try.prog (Instr.storeAt 9 t (.string x)) w k :=
  does_of (run_field_o ab W).2.2.2.2.2.2.2 (does_of (run_store1 sz_str rfl rfl h.q.kab.cell.2.2.2.2.2.2.2.1 (h.q.kab.cell.2.2.2.2.2.2.2.2 7)) (hk _ (h.set (h.q.kab.set7 x) h.q.sl rfl rfl)))
theorem RdSt.set1 {x : Value} {l : List UInt8} (h : RdSt w0 W rb ab sb dv iv pv o s) (hx : ∃ a n c, x = .slice a n c) (hk : ∀ W', RdSt w0 W' rb ab sb x iv pv { o with data := l } s → Mod (some ab) W W' → k () W') : Does Try.prog (Instr.fieldAt 72 (.pointer (some ⟨ab, 0, none⟩)) 1) W fun t w => Does Try.prog (Instr.storeAt 34 t x) w k := by
  obtain ⟨a, n, c, rfl⟩ := hx
  exact does_of (run_field_o ab W).2.1 (does_of (run_store1 sz_bytes rfl rfl h.q.kab.cell.2.1 (h.q.kab.cell.2.2.2.2.2.2.2.2 1)) (hk _ (h.set (h.q.kab.set1 l _) ⟨a, n, c, rfl⟩ rfl rfl) (Mod.setCell _ _ _ _)))
end
/-- an object whose lists are the call's own -/
structure OwnOb (w0 W : World) (e : TypeId) (dv iv pv : Value) (o : Ob) : Prop where
  data : OwnB w0 W dv o.data
  items : Own3 W w0.heap.size e iv o.items
  pars : Own W w0.heap.size 9 pv (strsV o.parents)
theorem OwnOb.isOb {w0 W : World} {e : TypeId} {dv iv pv : Value} {o : Ob} (h : OwnOb w0 W e dv iv pv o) : IsOb W dv iv pv o := ⟨h.data.row, h.items.row, h.pars.row⟩
theorem OwnOb.ext {w0 W W' : World} {e : TypeId} {dv iv pv : Value} {o : Ob} (h : OwnOb w0 W e dv iv pv o) (hE : Ext W W') : OwnOb w0 W' e dv iv pv o := ⟨h.data.ext hE, h.items.ext hE, h.pars.ext hE⟩
theorem OwnOb.back {w0 w1 W : World} {e : TypeId} {dv iv pv : Value} {o : Ob} (h : OwnOb w1 W e dv iv pv o) (hE : w0.heap.size ≤ w1.heap.size) : OwnOb w0 W e dv iv pv o := by
  refine ⟨Own.mono h.data hE, ⟨h.items.1, ?_⟩, h.pars.mono hE⟩
  rcases h.items.2 with h2 | ⟨g, cap, cur, hv, hg, r⟩
  · exact .inl h2
  · exact .inr ⟨g, cap, cur, hv, by omega, r⟩
theorem OwnOb.mod {w0 W W' : World} {e : TypeId} {dv iv pv : Value} {o : Ob} {b : Nat} {cs : Array Value} {t : TypeId} (h : OwnOb w0 W e dv iv pv o) (hk : Kp b cs t W) (h1 : t ≠ 5) (h2 : t ≠ e) (h3 : t ≠ 9) (hm : Mod (some b) W W') : OwnOb w0 W' e dv iv pv o :=
  ⟨Own.kept h.data hm (.inr (Ne.symm (h.data.ne hk h1))), h.items.kept hm (.inr (Ne.symm (h.items.neK hk h2))), h.pars.kept hm (.inr (Ne.symm (h.pars.neK hk h3)))⟩
/-- what read hands back -/
def ReadR (w w' : World) (o : Ob) (r : Value) : Prop := Ext w w' ∧ ∃ dv iv pv, r = ObV dv iv pv o ∧ OwnOb w w' 106 dv iv pv o
section
variable {w0 W : World} {rb ab sb : Nat} {dv iv pv : Value} {o : Ob} {s : Src} {k : Unit → World → Prop}
theorem RdSt.fin (h : RdSt w0 W rb ab sb dv iv pv o s) (hd : OwnB w0 W dv o.data) :
    Does Try.prog (Instr.loadAt 72 (.pointer (some ⟨ab, 0, none⟩))) W fun t w => Does Try.prog (Instr.storeAt 72 (.pointer (some ⟨rb, 0, none⟩)) t) w fun _ w => SameP Try.prog (loadRes 72 (.pointer (some ⟨rb, 0, none⟩))) w fun r => ReadR w0 w o r := by
  have hO : OwnOb w0 W 106 dv iv pv o := ⟨hd, h.items, h.pars⟩
  obtain ⟨W', h1, h2, h3⟩ := run_store_o hO.isOb (o := ob0) (dv := .slice none 0 0) (iv := .slice none 0 0) (pv := .slice none 0 0) h.q.krb
  have hO' := hO.mod h.q.krb (by decide) (by decide) (by decide) h3
  exact does_of (run_load_o hO.isOb h.q.kab) (does_of h1 (same_load_o (o := o) hO'.isOb h2 ⟨Mod.ext h.q.e h3 fun k hk => by cases hk; exact h.q.gr, dv, iv, pv, rfl, hO'⟩))
end
end Go.Proofs.Ytcncgkkilgmphaa
