/-
  Contracts: the reader of package obj (take, one, number, hash).
  Contract: obj.read.
  Contract: obj.read, its walk.
  Contract: obj.read, the whole.
  Contract: obj.read, the walk of its body.
-/
import Derived.Test.YtcncgkkilgmphaaOi
set_option linter.unusedVariables false
set_option linter.unusedSimpArgs false
namespace Go.Proofs.Ytcncgkkilgmphaa
open Go Go.RowKit

theorem Kp.ne {b b' : Nat} {cs cs' : Array Value} {t t' : TypeId} {W : World} (h : Kp b cs t W) (h' : Kp b' cs' t' W) (ht : t ≠ t') : b ≠ b' := fun e => by
  subst e
  unfold Kp at h h'
  rw [h] at h'
  simp only [Option.some.injEq, Obj.cells.injEq] at h'
  exact ht h'.2.1
theorem Own.neK {w : World} {base : Nat} {e : TypeId} {v : Value} {xs : List Value} {b : Nat} {cs : Array Value} {t : TypeId} (h : Own w base e v xs) (hk : Kp b cs t w) (ht : t ≠ e) : some b ≠ v.ownBlock := fun hb => by
  obtain ⟨cur, hc⟩ := h.block' b hb.symm
  exact ht (by unfold Kp at hk; rw [hk] at hc; simp only [Option.some.injEq, Obj.cells.injEq] at hc; exact hc.2.1)
theorem Own3.neK {w : World} {base : Nat} {e : TypeId} {v : Value} {l : List It} {b : Nat} {cs : Array Value} {t : TypeId} (h : Own3 w base e v l) (hk : Kp b cs t w) (ht : t ≠ e) : some b ≠ v.ownBlock := fun hb => by
  obtain ⟨cur, hc⟩ := h.block b hb.symm
  exact ht (by unfold Kp at hk; rw [hk] at hc; simp only [Option.some.injEq, Obj.cells.injEq] at hc; exact hc.2.1)
theorem Kp.set {b i : Nat} {cs : Array Value} {t : TypeId} {W : World} (h : Kp b cs t W) (x : Value) : Kp b (cs.setIfInBounds i x) t (W.setCell ⟨b, i, none⟩ x) := by
  unfold Kp at *
  simp only [World.setCell, Array.getElem?_modify, if_true, h, Option.map_some]
  rfl
theorem Kp.cell {b i : Nat} {cs : Array Value} {t : TypeId} {W : World} {x : Value} (h : Kp b cs t W) (hx : cs[i]? = some x) : W.cell? ⟨b, i, none⟩ = some x := by
  unfold Kp at h
  simp [World.cell?, h, hx]
theorem Kp.frozen {b i : Nat} {cs : Array Value} {t : TypeId} {W : World} (h : Kp b cs t W) : W.frozen? ⟨b, i, none⟩ = false := by
  unfold Kp at h
  simp [World.frozen?, h]
theorem Kp.lt {b : Nat} {cs : Array Value} {t : TypeId} {W : World} (h : Kp b cs t W) : b < W.heap.size := (Array.getElem?_eq_some_iff.1 h).1
/-- bytes that are read -/
def SrcB (w0 W : World) (sb : Nat) (s : Src) : Prop := ∃ bv, Kp sb #[bv, .bool s.2] 131 W ∧ Row w0 bv (bytesV s.1)
theorem SrcB.ext {w0 W W' : World} {sb : Nat} {s : Src} (h : SrcB w0 W sb s) (hE : Ext W W') : SrcB w0 W' sb s := let ⟨bv, h1, h2⟩ := h; ⟨bv, h1.ext hE, h2⟩
theorem SrcB.mod {w0 W W' : World} {sb : Nat} {s : Src} {row : Option Nat} (h : SrcB w0 W sb s) (hm : Mod row W W') (hne : some sb ≠ row) : SrcB w0 W' sb s := let ⟨bv, h1, h2⟩ := h; ⟨bv, h1.mod hm hne, h2⟩
theorem run_fieldS (b : Nat) (w : World) : (Instr.fieldAt 131 (.pointer (some ⟨b, 0, none⟩)) 0).run Try.prog w = .ok (.pointer (some ⟨b, 0, none⟩)) w ∧ (Instr.fieldAt 131 (.pointer (some ⟨b, 0, none⟩)) 1).run Try.prog w = .ok (.pointer (some ⟨b, 1, none⟩)) w := by
  refine ⟨?_, ?_⟩ <;> simp [go_sem, Instr.fieldAt, Addr.add]
theorem agg_bool (w : World) : (isAgg 4).run Try.prog w = .ok false w := by kernel_rfl
theorem sz_bool (w : World) : (sizeOf 4).run Try.prog w = .ok 1 w := by kernel_rfl
theorem sz_bytes (w : World) : (sizeOf 34).run Try.prog w = .ok 1 w := by kernel_rfl
theorem sz_strs' (w : World) : (sizeOf 23).run Try.prog w = .ok 1 w := by kernel_rfl
theorem sz_int' (w : World) : (sizeOf 3).run Try.prog w = .ok 1 w := by kernel_rfl
section
variable {w0 w : World} {sb : Nat} {s : Src} {k : Value → World → Prop}
theorem SrcB.load0 (h : SrcB w0 w sb s) (hk : ∀ bv, Kp sb #[bv, .bool s.2] 131 w → Row w0 bv (bytesV s.1) → k bv w) : Does Try.prog (Instr.fieldAt 131 (.pointer (some ⟨sb, 0, none⟩)) 0) w fun t w => Does Try.prog (Instr.loadAt 34 t) w k := by
  obtain ⟨bv, h1, h2⟩ := h
  exact does_of (run_fieldS sb w).1 (does_load1 agg_bytes (h1.cell rfl) (hk bv h1 h2))
theorem SrcB.load1 (h : SrcB w0 w sb s) (hk : k (.bool s.2) w) : Does Try.prog (Instr.fieldAt 131 (.pointer (some ⟨sb, 0, none⟩)) 1) w fun t w => Does Try.prog (Instr.loadAt 4 t) w k := by
  obtain ⟨bv, h1, h2⟩ := h
  exact does_of (run_fieldS sb w).2 (does_load1 agg_bool (h1.cell rfl) hk)
theorem SrcB.short {k : Unit → World → Prop} (h : SrcB w0 w sb s) (hk : ∀ W, SrcB w0 W sb (s.1, true) → Mod (some sb) w W → k () W) : Does Try.prog (Instr.fieldAt 131 (.pointer (some ⟨sb, 0, none⟩)) 1) w fun t w => Does Try.prog (Instr.storeAt 4 t (.bool true)) w k := by
  obtain ⟨bv, h1, h2⟩ := h
  refine does_of (run_fieldS sb w).2 (does_of (run_store1 sz_bool (by rfl) rfl (h1.cell (i := 1) rfl) h1.frozen) (hk _ ⟨bv, h1.set _, h2⟩ (Mod.setCell w sb 1 _)))
theorem SrcB.move {k : Unit → World → Prop} {bv' : Value} {l : List UInt8} (h : SrcB w0 w sb s) (hr : Row w0 bv' (bytesV l)) (hk : ∀ W, SrcB w0 W sb (l, s.2) → Mod (some sb) w W → k () W) : Does Try.prog (Instr.fieldAt 131 (.pointer (some ⟨sb, 0, none⟩)) 0) w fun t w => Does Try.prog (Instr.storeAt 34 t bv') w k := by
  obtain ⟨bv, h1, h2⟩ := h
  obtain ⟨a, c, hv⟩ := hr.slice
  refine does_of (run_fieldS sb w).1 (does_of (run_store1 sz_bytes (by rw [hv]; rfl) (by rw [hv]; rfl) (h1.cell (i := 0) rfl) h1.frozen) (hk _ ⟨bv', h1.set _, hr⟩ (Mod.setCell w sb 0 _)))
end
theorem take_spec {w0 w : World} {sb n : Nat} {s : Src} (h : SrcB w0 w sb s) : Call Try.prog 112 #[.pointer (some ⟨sb, 0, none⟩), .int .i64 n] w fun v w' => Row w0 v (bytesV (takeP s n).1) ∧ SrcB w0 w' sb (takeP s n).2 ∧ Mod (some sb) w w' := by
  apply vc112
  unfold V112
  rw [nilP_some]
  refine h.load1 ?_
  refine or_join (decide (s.1.length < n)) (fun _ j hj => ?_) ?_
  · rw [nilP_some]
    exact h.load0 fun bv _ hr => hr.len u_bytes (does_gt (by rw [show decide (((bytesV s.1).length : Int) < (n : Int)) = decide (s.1.length < n) by rw [decide_eq_decide, bytesV_length]; omega]; exact hj))
  refine condP_of (fun hb => ?_) fun hok => ?_
  · rw [nilP_some]
    have e : takeP s n = ([], (s.1, true)) := by
      unfold takeP
      rw [if_pos (by simpa using hb)]
    refine h.short fun W h1 h2 => ?_
    rw [e]
    exact ⟨Row.nil _ _ _, h1, h2⟩
  · simp only [Bool.or_eq_false_iff, decide_eq_false_iff_not] at hok
    have e : takeP s n = (s.1.take n, (s.1.drop n, s.2)) := by
      unfold takeP
      rw [if_neg (by simp [hok.1]; omega)]
    rw [e]
    rw [nilP_some]
    refine h.load0 fun bv hk hr => hr.upto u_bytes sz_u8 (h := n) (by simp; omega) fun x hx => ?_
    rw [nilP_some]
    refine h.load0 fun bv' hk' hr' => hr'.from u_bytes sz_u8 (l := n) (by simp; omega) fun y hy => ?_
    rw [nilP_some]
    have e1 : (bytesV s.1).take n = bytesV (s.1.take n) := by unfold bytesV; rw [List.map_take]
    have e2 : (bytesV s.1).drop n = bytesV (s.1.drop n) := by unfold bytesV; rw [List.map_drop]
    rw [e1] at hx
    rw [e2] at hy
    exact h.move hy fun W h1 h2 => ⟨hx, h1, h2⟩
theorem one_spec {w0 w : World} {sb : Nat} {s : Src} (h : SrcB w0 w sb s) (hE : Ext w0 w) (hsb : w0.heap.size ≤ sb) : Call Try.prog 111 #[.pointer (some ⟨sb, 0, none⟩)] w fun v w' => v = .int .i64 ((oneP s).1 : Nat) ∧ SrcB w0 w' sb (oneP s).2 ∧ Mod (some sb) w w' := by
  apply vc111
  unfold V111
  refine (take_spec (n := 1) h).mono fun v W ⟨h1, h2, h3⟩ => ?_
  have hE1 : Ext w0 W := Mod.ext hE h3 fun k hk => by cases hk; exact hsb
  refine (h1.ext hE1).len u_bytes (does_of (run_eqI W) (condP_of (fun h0 => ?_) fun h0 => ?_))
  · have hnil : (takeP s 1).1 = [] := by simp at h0; exact h0
    refine ⟨?_, h2, h3⟩
    unfold oneP
    rw [hnil]
    rfl
  · cases hl : (takeP s 1).1 with
    | nil => simp [hl] at h0
    | cons c l =>
      rw [hl] at h1
      refine does_byteAt (i := 0) h1 hE1 rfl (does_of (run_conv53 c W) ⟨?_, h2, h3⟩)
      unfold oneP
      rw [hl]
      rfl
theorem hashS_spec {w0 w : World} {sb : Nat} {s : Src} (h : SrcB w0 w sb s) (hE : Ext w0 w) (hsb : w0.heap.size ≤ sb) : Call Try.prog 113 #[.pointer (some ⟨sb, 0, none⟩)] w fun v w' => v = .string (hashP s).1 ∧ SrcB w0 w' sb (hashP s).2 ∧ Mod (some sb) w w' := by
  apply vc113
  unfold V113
  refine (take_spec (n := 32) h).mono fun v W ⟨h1, h2, h3⟩ => ?_
  have hE1 : Ext w0 W := Mod.ext hE h3 fun k hk => by cases hk; exact hsb
  have hl : (takeP s 32).1.length ≤ 32 := by unfold takeP; split <;> simp; omega
  refine (hex_spec (h1.ext hE1) (by omega)).mono fun v W2 ⟨g1, g2⟩ => ⟨g1, h2.ext g2, h3.trans (Mod.ofExt g2)⟩
theorem numberS_spec {w0 w : World} {sb : Nat} {s : Src} (h : SrcB w0 w sb s) (hE : Ext w0 w) (hl : s.1.length ≤ 1099511627776) : Call Try.prog 110 #[.pointer (some ⟨sb, 0, none⟩)] w fun v w' => v = .int .i64 ((numP s).1 : Nat) ∧ SrcB w0 w' sb (numP s).2 ∧ Mod (some sb) w w' := by
  apply vc110
  unfold V110
  rw [nilP_some]
  refine h.load0 fun bv hk hr => ?_
  refine (get_spec (a := 0) (hr.ext hE) hl (Nat.zero_le _)).mono fun v W ⟨h1, h2⟩ => ?_
  subst h1
  have hW := h.ext h2
  unfold getV
  rw [List.drop_zero]
  by_cases h0 : (getR s.1).2.2 = 0
  · rw [if_pos h0]
    have en : numP s = ((getR s.1).1, (takeP s (getR s.1).2.1).2) := by unfold numP; rw [if_pos h0]
    refine ex3a (ex3b (ex3c (does_of (run_neI W) ?_)))
    rw [show (!decide ((0 : Int) = 0)) = false from rfl, condP_false]
    rw [Nat.zero_add]
    refine (take_spec hW).mono fun v W2 ⟨g1, g2, g3⟩ => ?_
    rw [en]
    exact ⟨rfl, g2, (Mod.ofExt h2).trans g3⟩
  · rw [if_neg h0]
    have en : numP s = (0, (s.1, true)) := by unfold numP; rw [if_neg h0]
    refine ex3a (ex3b (ex3c (does_of (run_neI W) ?_)))
    rw [show (!decide ((getR s.1).2.2 = 0)) = true by simp [h0], condP_true]
    rw [nilP_some]
    refine hW.short fun W2 g1 g2 => ?_
    rw [en]
    exact ⟨rfl, g1, (Mod.ofExt h2).trans g2⟩
end Go.Proofs.Ytcncgkkilgmphaa

set_option linter.unusedVariables false
set_option linter.unusedSimpArgs false
namespace Go.Proofs.Ytcncgkkilgmphaa
open Go Go.RowKit

/-! ### plain: what is read is not too long -/
theorem takeP_len (s : Src) (n : Nat) : (takeP s n).1.length ≤ s.1.length ∧ (takeP s n).1.length ≤ n ∧ (takeP s n).2.1.length ≤ s.1.length ∧ ((takeP s n).2.2 = false → (takeP s n).2.1.length + n ≤ s.1.length ∧ s.2 = false) := by
  unfold takeP
  split
  · simp
  · rename_i h
    simp only [not_or, Nat.not_lt] at h
    simp
    refine ⟨by omega, by omega, fun h2 => ⟨by omega, h2⟩⟩
/-- reading a number takes nothing back -/
def Down (num : Src → Nat × Src) : Prop := ∀ s : Src, (num s).2.1.length ≤ s.1.length ∧ ((num s).2.2 = false → s.2 = false)
theorem numP_down : Down numP := fun s => by
  unfold numP
  split
  · have := takeP_len s (getR s.1).2.1
    exact ⟨this.2.2.1, fun h => (this.2.2.2 h).2⟩
  · simp
theorem rnumP_down : Down rnumP := fun s => by
  unfold rnumP
  split
  · simp
  · rename_i h
    simp only [not_or] at h
    simp
theorem itemP_len {num : Src → Nat × Src} (hd : Down num) (s : Src) : (itemP num s).2.1.length ≤ s.1.length ∧ ((itemP num s).2.2 = false → (itemP num s).2.1.length + 1 ≤ s.1.length) ∧ (bs (itemP num s).1.name).length ≤ s.1.length ∧ (bs (itemP num s).1.id).length ≤ 64 := by
  unfold itemP
  simp only
  have h1 := takeP_len s 1
  have h2 := hd (takeP s 1).2
  have h3 := takeP_len (num (takeP s 1).2).2 (num (takeP s 1).2).1
  have h4 := takeP_len (takeP (num (takeP s 1).2).2 (num (takeP s 1).2).1).2 32
  unfold oneP hashP
  simp only [bs_mkS, hexS, hexL_length]
  refine ⟨by omega, fun h => ?_, by omega, by omega⟩
  have q4 := h4.2.2.2 h
  have q3 := h3.2.2.2 q4.2
  have q2 := h2.2 q3.2
  have q1 := h1.2.2.2 q2
  omega
theorem hashP_len (s : Src) : (hashP s).2.1.length ≤ s.1.length ∧ ((hashP s).2.2 = false → (hashP s).2.1.length + 32 ≤ s.1.length) ∧ (bs (hashP s).1).length ≤ 64 := by
  unfold hashP
  have h1 := takeP_len s 32
  simp only [bs_mkS, hexS, hexL_length]
  exact ⟨by omega, fun h => (h1.2.2.2 h).1, by omega⟩
theorem itemsP_ok {num : Src → Nat × Src} (hd : Down num) : ∀ (k : Nat) (s : Src) (acc : List It) (L : Nat), s.1.length + acc.length ≤ L + (if s.2 then 1 else 0) → s.1.length ≤ L → (∀ x ∈ acc, (bs x.name).length ≤ L ∧ (bs x.id).length ≤ 64) →
    (itemsP num k s acc).2.1.length ≤ L ∧ (itemsP num k s acc).1.length ≤ L + 1 ∧ ∀ x ∈ (itemsP num k s acc).1, (bs x.name).length ≤ L ∧ (bs x.id).length ≤ 64
  | 0, s, acc, L, h, hs, ha => by
    simp only [itemsP]
    refine ⟨hs, ?_, ha⟩
    split at h <;> omega
  | k + 1, s, acc, L, h, hs, ha => by
    unfold itemsP
    by_cases h2 : s.2 = true
    · rw [if_pos h2]
      refine ⟨hs, ?_, ha⟩
      rw [h2] at h
      simp at h
      simp only
      omega
    · rw [if_neg h2]
      have hl := itemP_len hd s
      simp only [h2] at h
      refine itemsP_ok hd k _ _ L ?_ (by omega) fun x hx => ?_
      · simp only [List.length_append, List.length_cons, List.length_nil]
        cases hq : (itemP num s).2.2 with
        | true => simp at h ⊢; omega
        | false => have := hl.2.1 hq; simp at h ⊢; omega
      · rcases List.mem_append.1 hx with hx | hx
        · exact ha x hx
        · rw [List.mem_singleton.1 hx]
          exact ⟨by omega, hl.2.2.2⟩
theorem hashesP_ok : ∀ (k : Nat) (s : Src) (acc : List ByteArray) (L : Nat), s.1.length + acc.length ≤ L + (if s.2 then 1 else 0) → s.1.length ≤ L → (∀ x ∈ acc, (bs x).length ≤ 64) →
    (hashesP k s acc).2.1.length ≤ L ∧ (hashesP k s acc).1.length ≤ L + 1 ∧ ∀ x ∈ (hashesP k s acc).1, (bs x).length ≤ 64
  | 0, s, acc, L, h, hs, ha => by
    simp only [hashesP]
    refine ⟨hs, ?_, ha⟩
    split at h <;> omega
  | k + 1, s, acc, L, h, hs, ha => by
    unfold hashesP
    by_cases h2 : s.2 = true
    · rw [if_pos h2]
      refine ⟨hs, ?_, ha⟩
      rw [h2] at h
      simp at h
      simp only
      omega
    · rw [if_neg h2]
      have hl := hashP_len s
      simp only [h2] at h
      refine hashesP_ok k _ _ L ?_ (by omega) fun x hx => ?_
      · simp only [List.length_append, List.length_cons, List.length_nil]
        cases hq : (hashP s).2.2 with
        | true => simp at h ⊢; omega
        | false => have := hl.2.1 hq; simp at h ⊢; omega
      · rcases List.mem_append.1 hx with hx | hx
        · exact ha x hx
        · rw [List.mem_singleton.1 hx]
          exact hl.2.2
theorem parse_modest {num : Src → Nat × Src} (hd : Down num) {kind : Int} {l : List UInt8} (hl : l.length ≤ 1048576) : Modest (parse num kind l).1 := by
  have short0 : Short noS := by unfold Short; simp [bs, noS]
  unfold parse
  split
  · exact ⟨by simp only; omega, by simp [ob0], by simp [ob0], short0, by simp [ob0], short0⟩
  split
  · have hn := hd (l, false)
    have := itemsP_ok hd (num (l, false)).1 (num (l, false)).2 [] l.length (by simp only [List.length_nil]; have := hn.1; simp only at this; omega) hn.1 (by simp)
    exact ⟨by simp [ob0], by simp only; omega, fun x hx => by have := this.2.2 x hx; unfold Short; exact ⟨by omega, by omega⟩, short0, by simp [ob0], short0⟩
  split
  · unfold parseC
    simp only
    have h1 := hashP_len (l, false)
    have h2 : (oneP (hashP (l, false)).2).2.1.length ≤ l.length := by have := takeP_len (hashP (l, false)).2 1; unfold oneP; simp only at h1 ⊢; omega
    have h3 := hashesP_ok (oneP (hashP (l, false)).2).1 (oneP (hashP (l, false)).2).2 [] l.length (by simp only [List.length_nil]; omega) h2 (by simp)
    refine ⟨by simp [ob0], by simp [ob0], by simp [ob0], by unfold Short; have := h1.2.2; simp only; omega, fun x hx => by have := h3.2.2 x hx; unfold Short; omega, ?_⟩
    unfold Short tailP
    simp only [bs_mkS]
    generalize hps : (hashesP (oneP (hashP (l, false)).2).1 (oneP (hashP (l, false)).2).2 []).2 = q at h3
    have k1 := hd q
    have k2 := hd (num q).2
    have k3 := hd (num (num q).2).2
    have k4 := takeP_len (num (num (num q).2).2).2 (num (num (num q).2).2).1
    omega
  · exact ⟨by simp [ob0], by simp [ob0], by simp [ob0], short0, by simp [ob0], short0⟩
end Go.Proofs.Ytcncgkkilgmphaa

set_option linter.unusedVariables false
set_option linter.unusedSimpArgs false
namespace Go.Proofs.Ytcncgkkilgmphaa
open Go Go.RowKit

def zObC : Array Value := ObC (.slice none 0 0) (.slice none 0 0) (.slice none 0 0) ob0
structure RdQ (w0 W : World) (rb ab sb : Nat) (dv iv pv : Value) (o : Ob) (s : Src) : Prop where
  e : Ext w0 W
  krb : Kp rb zObC 72 W
  kab : OBlk W ab 72 dv iv pv o
  ksb : SrcB w0 W sb s
  ne : rb ≠ ab
  gr : w0.heap.size ≤ rb
  ga : w0.heap.size ≤ ab
  gs : w0.heap.size ≤ sb
  sl : ∃ a n c, dv = .slice a n c
structure RdSt (w0 W : World) (rb ab sb : Nat) (dv iv pv : Value) (o : Ob) (s : Src) : Prop where
  q : RdQ w0 W rb ab sb dv iv pv o s
  items : Own3 W w0.heap.size 106 iv o.items
  pars : Own W w0.heap.size 9 pv (strsV o.parents)
section
variable {w0 W W' : World} {rb ab sb : Nat} {dv iv pv : Value} {o o' : Ob} {s s' : Src}
theorem RdQ.ext (h : RdQ w0 W rb ab sb dv iv pv o s) (hE : Ext W W') : RdQ w0 W' rb ab sb dv iv pv o s := ⟨h.e.trans hE, h.krb.ext hE, h.kab.ext hE, h.ksb.ext hE, h.ne, h.gr, h.ga, h.gs, h.sl⟩
theorem RdSt.ext (h : RdSt w0 W rb ab sb dv iv pv o s) (hE : Ext W W') : RdSt w0 W' rb ab sb dv iv pv o s := ⟨h.q.ext hE, h.items.ext hE, h.pars.ext hE⟩
theorem SrcB.kp (h : SrcB w0 W sb s) : ∃ cs, Kp sb cs 131 W := let ⟨bv, h1, _⟩ := h; ⟨_, h1⟩
theorem RdQ.abk (h : RdQ w0 W rb ab sb dv iv pv o s) : Kp ab (ObC dv iv pv o) 72 W := h.kab
/-- the bytes are read on -/
theorem RdQ.src (h : RdQ w0 W rb ab sb dv iv pv o s) (hm : Mod (some sb) W W') (hs : SrcB w0 W' sb s') : RdQ w0 W' rb ab sb dv iv pv o s' := by
  obtain ⟨cs, hk⟩ := h.ksb.kp
  refine ⟨Mod.ext h.e hm fun k hk => by cases hk; exact h.gs, h.krb.mod hm fun e => ?_, ?_, hs, h.ne, h.gr, h.ga, h.gs, h.sl⟩
  · exact h.krb.ne hk (by decide) (by cases e; rfl)
  · exact h.abk.mod hm fun e => h.abk.ne hk (by decide) (by cases e; rfl)
theorem RdSt.src (h : RdSt w0 W rb ab sb dv iv pv o s) (hm : Mod (some sb) W W') (hs : SrcB w0 W' sb s') : RdSt w0 W' rb ab sb dv iv pv o s' := by
  obtain ⟨cs, hk⟩ := h.q.ksb.kp
  exact ⟨h.q.src hm hs, h.items.kept hm (.inr (Ne.symm (h.items.neK hk (by decide)))), h.pars.kept hm (.inr (Ne.symm (h.pars.neK hk (by decide))))⟩
/-- the object itself is changed -/
theorem RdQ.obj {dv' iv' pv' : Value} (h : RdQ w0 W rb ab sb dv iv pv o s) (hm : Mod (some ab) W W') (ha : OBlk W' ab 72 dv' iv' pv' o') (hd : ∃ a n c, dv' = .slice a n c) : RdQ w0 W' rb ab sb dv' iv' pv' o' s := by
  obtain ⟨cs, hk⟩ := h.ksb.kp
  refine ⟨Mod.ext h.e hm fun k hk => by cases hk; exact h.ga, h.krb.mod hm fun e => h.ne (by cases e; rfl), ha, h.ksb.mod hm fun e => ?_, h.ne, h.gr, h.ga, h.gs, hd⟩
  exact hk.ne h.abk (by decide) (by cases e; rfl)
/-- other memory is changed -/
theorem RdQ.other {row : Option Nat} (h : RdQ w0 W rb ab sb dv iv pv o s) (hm : Mod row W W') (hr : ∀ k, row = some k → w0.heap.size ≤ k) (h1 : some rb ≠ row) (h2 : some ab ≠ row) (h3 : some sb ≠ row) : RdQ w0 W' rb ab sb dv iv pv o s :=
  ⟨Mod.ext h.e hm hr, h.krb.mod hm h1, h.kab.mod hm h2, h.ksb.mod hm h3, h.ne, h.gr, h.ga, h.gs, h.sl⟩
theorem RdSt.isOb (h : RdSt w0 W rb ab sb dv iv pv o s) (hd : Row W dv (bytesV o.data)) : IsOb W dv iv pv o := ⟨hd, h.items.row, h.pars.row⟩
end
theorem own3_slice {w : World} {base : Nat} {e : TypeId} {v : Value} {l : List It} (h : Own3 w base e v l) : ∃ a n c, v = .slice a n c := by
  obtain ⟨a, c, hv⟩ := h.row.slice
  exact ⟨a, _, c, hv⟩
theorem own_slice {w : World} {base : Nat} {e : TypeId} {v : Value} {xs : List Value} (h : Own w base e v xs) : ∃ a n c, v = .slice a n c := by
  obtain ⟨a, c, hv⟩ := h.slice
  exact ⟨a, _, c, hv⟩
theorem ir_one {W : World} {g : Nat} {x : It} {t : TypeId} (h : Kp g (cellsI x).toArray t W) : IR W (.slice (some ⟨g, 0, none⟩) 1 1) [x] := by
  refine ⟨some ⟨g, 0, none⟩, 1, rfl, by simp [maxLen], by simp, fun j y hj => ⟨_, rfl, ?_⟩⟩
  have e : itV [x] = cellsI x := by simp [itV]
  rw [e] at hj
  have ha : (⟨g, 0, none⟩ : Addr).add j = ⟨g, j, none⟩ := by unfold Addr.add; split <;> simp_all
  rw [ha]
  exact h.cell (by simpa using hj)
def RdC (w0 : World) (rb ab sb : Nat) (dv iv pv : Value) (o : Ob) (x : It) (s : Src) (k : Nat) (W : World) : Prop :=
  match k with
  | 0 => RdSt w0 W rb ab sb dv iv pv o s
  | 1 => RdSt w0 W rb ab sb dv iv pv o (hashP s).2
  | 2 => RdQ w0 W rb ab sb dv iv pv o (hashP s).2 ∧ Own W w0.heap.size 9 pv (strsV o.parents)
  | _ => ∃ iv', RdSt w0 W rb ab sb dv iv' pv { o with items := o.items ++ [x] } (hashP s).2
theorem RdC.ext {w0 W W' : World} {rb ab sb : Nat} {dv iv pv : Value} {o : Ob} {x : It} {s : Src} {k : Nat} (h : RdC w0 rb ab sb dv iv pv o x s k W) (hE : Ext W W') : RdC w0 rb ab sb dv iv pv o x s k W' := by
  match k, h with
  | 0, h => exact RdSt.ext h hE
  | 1, h => exact RdSt.ext h hE
  | 2, h => exact ⟨h.1.ext hE, h.2.ext hE⟩
  | n + 3, ⟨iv', h⟩ => exact ⟨iv', RdSt.ext h hE⟩
theorem RdC.q {w0 W : World} {rb ab sb : Nat} {dv iv pv : Value} {o : Ob} {x : It} {s : Src} {k : Nat} (h : RdC w0 rb ab sb dv iv pv o x s k W) (hk : k ≤ 2) : OBlk W ab 72 dv iv pv o := by
  match k, h, hk with
  | 0, h, _ => exact RdQ.kab (RdSt.q h)
  | 1, h, _ => exact RdQ.kab (RdSt.q h)
  | 2, h, _ => exact RdQ.kab h.1
def FT (ab : Nat) (x : It) (k : Nat) (v : Value) (W : World) : Prop := k ≤ 1 → ∃ g, v = .slice (some ⟨g, 0, none⟩) 1 1 ∧ Kp g (cellsI x).toArray 106 W
theorem FT.off {ab : Nat} {x : It} {k : Nat} {v : Value} {W : World} (h : ¬ k ≤ 1) : FT ab x k v W := fun e => absurd e h
theorem region94_13 {w0 W : World} {rb ab sb : Nat} {dv iv pv : Value} {o : Ob} {s : Src} {mode : Int} {nm : ByteArray} {J : VF 0} (h : RdSt w0 W rb ab sb dv iv pv o s) (hl : o.items.length ≤ 1099511627000)
    (hJ : ∀ W' iv', RdSt w0 W' rb ab sb dv iv' pv { o with items := o.items ++ [⟨mode, nm, (hashP s).1⟩] } (hashP s).2 → J W') :
    DrawP Try.prog 96 (opsOf Try.f94 13) [5, 6, 9, 10] [.pointer (some ⟨ab, 0, none⟩), .pointer (some ⟨sb, 0, none⟩), .int .i64 mode, .string nm] [] J W := by
  have hE := h.q.e
  have fO := fun W => run_field_o ab W
  refine h94_13 w0 (RdC w0 rb ab sb dv iv pv o ⟨mode, nm, (hashP s).1⟩ s) (FcV (.string (hashP s).1)) (FcV (.agg (cellsI ⟨mode, nm, (hashP s).1⟩).toArray)) (FT ab ⟨mode, nm, (hashP s).1⟩)
    (fun k v W => k = 2 → Own3 W w0.heap.size 106 v (o.items ++ [⟨mode, nm, (hashP s).1⟩])) hE (FcV.st _) (FcV.st _) (fun k v W W' hE h hk => by obtain ⟨g, g1, g2⟩ := h hk; exact ⟨g, g1, g2.ext hE⟩) (fun k v W W' hE h hk => (h hk).ext hE) (h.ext (Ext.drawn W)) ?_
  refine qx (fun W => (fO W).2.2.1) (qc (fun W' hS => by obtain ⟨_, k, _, hk, hC⟩ := hS; exact run_load1 agg_items_o (hC.q (by omega)).cell.2.2.1) (qx (fun W => (fO W).2.2.1) ⟨?_, ?_, ?_, ?_, ?_, ?_⟩))
  · intro W1 hA hC
    have hR : RdSt w0 W1 rb ab sb dv iv pv o s := hC
    obtain ⟨cs, hk⟩ := hR.q.ksb.kp
    refine (hashS_spec hR.q.ksb hR.q.e hR.q.gs).mono fun v W2 ⟨g1, g2, g3⟩ => ?_
    have hR2 := hR.src g3 g2
    refine ⟨⟨g3.size, hR2.q.e⟩, hR2, g1, fun v hv _ => ?_, trivial⟩
    obtain ⟨g, e1, e2⟩ := hv (by omega)
    exact ⟨g, e1, e2.mod g3 fun e => e2.ne hk (by decide) (by cases e; rfl)⟩
  · rintro t k hk1 hk2 W1 hA hC rfl
    exact does_of (run_buildI_o ⟨mode, nm, (hashP s).1⟩ W1) ⟨Ext.refl _, hC, rfl⟩
  · rintro t k hk1 hk2 W1 hA hC rfl
    exact does_of (run_buildSliceI_o _ W1) ⟨ext_any _ W1, hC.ext (ext_any _ W1), fun _ => ⟨_, rfl, heap_alloc_new W1 _⟩⟩
  · intro t W1 hA hC hF
    have hR : RdSt w0 W1 rb ab sb dv iv pv o (hashP s).2 := hC
    obtain ⟨g, rfl, hg⟩ := hF (by omega)
    obtain ⟨cs, hk⟩ := hR.q.ksb.kp
    refine hR.items.push_o (ir_one hg) (by omega) hR.q.e.size fun v W2 g1 g2 g3 => ?_
    have q1 := hR.items.neK hR.q.krb (by decide)
    have q2 := hR.items.neK hR.q.abk (by decide)
    have q3 := hR.items.neK hk (by decide)
    have hR2 := hR.q.other g2 (fun k hk => (hR.items.lt k hk).1) q1 q2 q3
    refine ⟨⟨g2.size, hR2.e⟩, ⟨hR2, hR.pars.kept g2 ?_⟩, fun _ => g1, (by intros; assumption), (by intros; assumption), (by intros; first | omega | exact FT.off (by omega)), trivial⟩
    by_cases hp : pv.ownBlock = none
    · exact .inl hp
    · refine .inr fun e => ?_
      obtain ⟨b, hb⟩ := Option.ne_none_iff_exists'.1 hp
      obtain ⟨cur, hc⟩ := hR.pars.block' b hb
      exact hR.items.neK (t := 9) hc (by decide) (by rw [← e, hb])
  · intro t W1 hA hC hF
    obtain ⟨hQ, hP⟩ : RdQ w0 W1 rb ab sb dv iv pv o (hashP s).2 ∧ Own W1 w0.heap.size 9 pv (strsV o.parents) := hC
    have hI := hF rfl
    obtain ⟨a, n, c, rfl⟩ := own3_slice hI
    have hm := Mod.setCell W1 ab 2 (.slice a n c)
    have hQ2 := hQ.obj hm (hQ.kab.set2 (o.items ++ [⟨mode, nm, (hashP s).1⟩]) (.slice a n c)) hQ.sl
    refine does_of (run_store1 sz_items_o rfl rfl (hQ.kab.cell.2.2.1) (hQ.kab.cell.2.2.2.2.2.2.2.2 2)) ⟨⟨hm.size, hQ2.e⟩, ⟨.slice a n c, hQ2, hI.kept hm (.inr (Ne.symm (hI.neK hQ.abk (by decide)))), hP.kept hm (.inr (Ne.symm (hP.neK hQ.abk (by decide))))⟩, trivial, (by intros; assumption), (by intros; assumption), (by intros; first | omega | exact FT.off (by omega)), (by intros; first | omega | exact FT.off (by omega)), trivial⟩
  · intro W1 hA hC
    obtain ⟨iv', hR⟩ : ∃ iv', RdSt w0 W1 rb ab sb dv iv' pv { o with items := o.items ++ [⟨mode, nm, (hashP s).1⟩] } (hashP s).2 := hC
    exact hJ W1 iv' hR
end Go.Proofs.Ytcncgkkilgmphaa

set_option linter.unusedVariables false
set_option linter.unusedSimpArgs false
namespace Go.Proofs.Ytcncgkkilgmphaa
open Go Go.RowKit

def RdD (w0 : World) (rb ab sb : Nat) (dv iv pv : Value) (o : Ob) (x : ByteArray) (s : Src) (k : Nat) (W : World) : Prop :=
  match k with
  | 0 => RdSt w0 W rb ab sb dv iv pv o s
  | 1 => RdSt w0 W rb ab sb dv iv pv o (hashP s).2
  | 2 => RdQ w0 W rb ab sb dv iv pv o (hashP s).2 ∧ Own3 W w0.heap.size 106 iv o.items
  | _ => ∃ pv', RdSt w0 W rb ab sb dv iv pv' { o with parents := o.parents ++ [x] } (hashP s).2
theorem RdD.ext {w0 W W' : World} {rb ab sb : Nat} {dv iv pv : Value} {o : Ob} {x : ByteArray} {s : Src} {k : Nat} (h : RdD w0 rb ab sb dv iv pv o x s k W) (hE : Ext W W') : RdD w0 rb ab sb dv iv pv o x s k W' := by
  match k, h with
  | 0, h => exact RdSt.ext h hE
  | 1, h => exact RdSt.ext h hE
  | 2, h => exact ⟨h.1.ext hE, h.2.ext hE⟩
  | n + 3, ⟨iv', h⟩ => exact ⟨iv', RdSt.ext h hE⟩
theorem RdD.q {w0 W : World} {rb ab sb : Nat} {dv iv pv : Value} {o : Ob} {x : ByteArray} {s : Src} {k : Nat} (h : RdD w0 rb ab sb dv iv pv o x s k W) (hk : k ≤ 2) : OBlk W ab 72 dv iv pv o := by
  match k, h, hk with
  | 0, h, _ => exact RdQ.kab (RdSt.q h)
  | 1, h, _ => exact RdQ.kab (RdSt.q h)
  | 2, h, _ => exact RdQ.kab h.1
theorem region94_20 {w0 W : World} {rb ab sb : Nat} {dv iv pv : Value} {o : Ob} {s : Src} {J : VF 0} (h : RdSt w0 W rb ab sb dv iv pv o s) (hl : o.parents.length ≤ 1099511627000)
    (hJ : ∀ W' pv', RdSt w0 W' rb ab sb dv iv pv' { o with parents := o.parents ++ [(hashP s).1] } (hashP s).2 → J W') :
    DrawP Try.prog 96 (opsOf Try.f94 20) [5, 6] [.pointer (some ⟨ab, 0, none⟩), .pointer (some ⟨sb, 0, none⟩)] [] J W := by
  have hE := h.q.e
  have fO := fun W => run_field_o ab W
  refine h94_20 w0 (RdD w0 rb ab sb dv iv pv o (hashP s).1 s) (FcV (.string (hashP s).1)) (fun k v W => k = 1 → Row W v (strsV [(hashP s).1]))
    (fun k v W => k = 2 → Own W w0.heap.size 9 v (strsV (o.parents ++ [(hashP s).1]))) hE (FcV.st _) (fun k v W W' hE h hk => (h hk).ext hE) (fun k v W W' hE h hk => (h hk).ext hE) (h.ext (Ext.drawn W)) ?_
  refine qx (fun W => (fO W).2.2.2.2.1) (qc (fun W' hS => by obtain ⟨_, k, _, hk, hC⟩ := hS; exact run_load1 agg_strsl (hC.q (by omega)).cell.2.2.2.2.1) (qx (fun W => (fO W).2.2.2.2.1) ⟨?_, ?_, ?_, ?_, ?_⟩))
  · intro W1 hA hC
    have hR : RdSt w0 W1 rb ab sb dv iv pv o s := hC
    refine (hashS_spec hR.q.ksb hR.q.e hR.q.gs).mono fun v W2 ⟨g1, g2, g3⟩ => ?_
    have hR2 := hR.src g3 g2
    exact ⟨⟨g3.size, hR2.q.e⟩, hR2, g1, trivial⟩
  · rintro t W1 hA hC rfl
    refine does_of (run_buildSlice1 u_strs sz_str (z := .string noS) (fun w => by kernel_rfl) rfl rfl W1) ⟨ext_any _ W1, hC.ext (ext_any _ W1), fun _ => ?_⟩
    exact (own_single (base := 0) 9 (.string (hashP s).1) (Nat.zero_le _)).row
  · intro t W1 hA hC hF
    have hR : RdSt w0 W1 rb ab sb dv iv pv o (hashP s).2 := hC
    obtain ⟨cs, hk⟩ := hR.q.ksb.kp
    refine hR.pars.append u_strs info_str rfl (hF rfl) (strsV_one _) (by simp; omega) (by omega) hR.q.e.size fun v W2 g1 g2 g3 => ?_
    have q1 := hR.pars.neK hR.q.krb (by decide)
    have q2 := hR.pars.neK hR.q.abk (by decide)
    have q3 := hR.pars.neK hk (by decide)
    have hR2 := hR.q.other g2 (fun k hk => (hR.pars.lt k hk).1) q1 q2 q3
    refine ⟨⟨g2.size, hR2.e⟩, ⟨hR2, hR.items.kept g2 ?_⟩, fun _ => by rw [strsV_append]; exact g1, (by intros; assumption), (by intros; first | omega | exact FoB.off (by omega) | exact FrB.off (by omega)), trivial⟩
    by_cases hp : iv.ownBlock = none
    · exact .inl hp
    · refine .inr fun e => ?_
      obtain ⟨b, hb⟩ := Option.ne_none_iff_exists'.1 hp
      obtain ⟨cur, hc⟩ := hR.items.block b hb
      exact hR.pars.neK (t := 106) hc (by decide) (by rw [← e, hb])
  · intro t W1 hA hC hF
    obtain ⟨hQ, hI⟩ : RdQ w0 W1 rb ab sb dv iv pv o (hashP s).2 ∧ Own3 W1 w0.heap.size 106 iv o.items := hC
    have hP := hF rfl
    obtain ⟨a, n, c, rfl⟩ := own_slice hP
    have hm := Mod.setCell W1 ab 4 (.slice a n c)
    have hQ2 := hQ.obj hm (hQ.kab.set4 (o.parents ++ [(hashP s).1]) (.slice a n c)) hQ.sl
    exact does_of (run_store1 sz_strs' rfl rfl (hQ.kab.cell.2.2.2.2.1) (hQ.kab.cell.2.2.2.2.2.2.2.2 4)) ⟨⟨hm.size, hQ2.e⟩, ⟨.slice a n c, hQ2, hI.kept hm (.inr (Ne.symm (hI.neK hQ.abk (by decide)))), hP.kept hm (.inr (Ne.symm (hP.neK hQ.abk (by decide))))⟩, trivial, (by intros; assumption), (by intros; first | omega | exact FoB.off (by omega) | exact FrB.off (by omega)), (by intros; first | omega | exact FoB.off (by omega) | exact FrB.off (by omega)), trivial⟩
  · intro W1 hA hC
    obtain ⟨pv', hR⟩ : ∃ pv', RdSt w0 W1 rb ab sb dv iv pv' { o with parents := o.parents ++ [(hashP s).1] } (hashP s).2 := hC
    exact hJ W1 pv' hR
section
variable {w0 W : World} {rb ab sb : Nat} {dv iv pv : Value} {o : Ob} {s : Src} {k : Unit → World → Prop}
/-- one cell of the object is set -/
theorem RdSt.set {dv' : Value} {o' : Ob} {i : Nat} {x : Value} (h : RdSt w0 W rb ab sb dv iv pv o s) (ha : OBlk (W.setCell ⟨ab, i, none⟩ x) ab 72 dv' iv pv o') (hd : ∃ a n c, dv' = .slice a n c) (hi : o'.items = o.items) (hp : o'.parents = o.parents) : RdSt w0 (W.setCell ⟨ab, i, none⟩ x) rb ab sb dv' iv pv o' s := by
  have hm := Mod.setCell W ab i x
  exact ⟨h.q.obj hm ha hd, by rw [hi]; exact h.items.kept hm (.inr (Ne.symm (h.items.neK h.q.abk (by decide)))), by rw [hp]; exact h.pars.kept hm (.inr (Ne.symm (h.pars.neK h.q.abk (by decide))))⟩
theorem RdSt.set3 {x : ByteArray} (h : RdSt w0 W rb ab sb dv iv pv o s) (hk : ∀ W', RdSt w0 W' rb ab sb dv iv pv { o with tree := x } s → k () W') : Does Try.prog (Instr.fieldAt 72 (.pointer (some ⟨ab, 0, none⟩)) 3) W fun t w => Does Try.prog (Instr.storeAt 9 t (.string x)) w k :=
  does_of (run_field_o ab W).2.2.2.1 (does_of (run_store1 sz_str rfl rfl h.q.kab.cell.2.2.2.1 (h.q.kab.cell.2.2.2.2.2.2.2.2 3)) (hk _ (h.set (h.q.kab.set3 x) h.q.sl rfl rfl)))
theorem RdSt.set5 {x : Int} (h : RdSt w0 W rb ab sb dv iv pv o s) (hk : ∀ W', RdSt w0 W' rb ab sb dv iv pv { o with stamp := x } s → k () W') : Does Try.prog (Instr.fieldAt 72 (.pointer (some ⟨ab, 0, none⟩)) 5) W fun t w => Does Try.prog (Instr.storeAt 3 t (.int .i64 x)) w k :=
  does_of (run_field_o ab W).2.2.2.2.2.1 (does_of (run_store1 sz_int' rfl rfl h.q.kab.cell.2.2.2.2.2.1 (h.q.kab.cell.2.2.2.2.2.2.2.2 5)) (hk _ (h.set (h.q.kab.set5 x) h.q.sl rfl rfl)))
theorem RdSt.set6 {x : Int} (h : RdSt w0 W rb ab sb dv iv pv o s) (hk : ∀ W', RdSt w0 W' rb ab sb dv iv pv { o with author := x } s → k () W') : Does Try.prog (Instr.fieldAt 72 (.pointer (some ⟨ab, 0, none⟩)) 6) W fun t w => Does Try.prog (Instr.storeAt 3 t (.int .i64 x)) w k :=
  does_of (run_field_o ab W).2.2.2.2.2.2.1 (does_of (run_store1 sz_int' rfl rfl h.q.kab.cell.2.2.2.2.2.2.1 (h.q.kab.cell.2.2.2.2.2.2.2.2 6)) (hk _ (h.set (h.q.kab.set6 x) h.q.sl rfl rfl)))
theorem RdSt.set7 {x : ByteArray} (h : RdSt w0 W rb ab sb dv iv pv o s) (hk : ∀ W', RdSt w0 W' rb ab sb dv iv pv { o with msg := x } s → k () W') : Does Try.prog (Instr.fieldAt 72 (.pointer (some ⟨ab, 0, none⟩)) 7) W fun t w => Does Try.prog (Instr.storeAt 9 t (.string x)) w k :=
  does_of (run_field_o ab W).2.2.2.2.2.2.2 (does_of (run_store1 sz_str rfl rfl h.q.kab.cell.2.2.2.2.2.2.2.1 (h.q.kab.cell.2.2.2.2.2.2.2.2 7)) (hk _ (h.set (h.q.kab.set7 x) h.q.sl rfl rfl)))
theorem RdSt.set1 {x : Value} {l : List UInt8} (h : RdSt w0 W rb ab sb dv iv pv o s) (hx : ∃ a n c, x = .slice a n c) (hk : ∀ W', RdSt w0 W' rb ab sb x iv pv { o with data := l } s → Mod (some ab) W W' → k () W') : Does Try.prog (Instr.fieldAt 72 (.pointer (some ⟨ab, 0, none⟩)) 1) W fun t w => Does Try.prog (Instr.storeAt 34 t x) w k := by
  obtain ⟨a, n, c, rfl⟩ := hx
  exact does_of (run_field_o ab W).2.1 (does_of (run_store1 sz_bytes rfl rfl h.q.kab.cell.2.1 (h.q.kab.cell.2.2.2.2.2.2.2.2 1)) (hk _ (h.set (h.q.kab.set1 l _) ⟨a, n, c, rfl⟩ rfl rfl) (Mod.setCell _ _ _ _)))
end
/-- an object whose lists are the call's own -/
structure OwnOb (w0 W : World) (e : TypeId) (dv iv pv : Value) (o : Ob) : Prop where
  data : OwnB w0 W dv o.data
  items : Own3 W w0.heap.size e iv o.items
  pars : Own W w0.heap.size 9 pv (strsV o.parents)
theorem OwnOb.isOb {w0 W : World} {e : TypeId} {dv iv pv : Value} {o : Ob} (h : OwnOb w0 W e dv iv pv o) : IsOb W dv iv pv o := ⟨h.data.row, h.items.row, h.pars.row⟩
theorem OwnOb.ext {w0 W W' : World} {e : TypeId} {dv iv pv : Value} {o : Ob} (h : OwnOb w0 W e dv iv pv o) (hE : Ext W W') : OwnOb w0 W' e dv iv pv o := ⟨h.data.ext hE, h.items.ext hE, h.pars.ext hE⟩
theorem OwnOb.back {w0 w1 W : World} {e : TypeId} {dv iv pv : Value} {o : Ob} (h : OwnOb w1 W e dv iv pv o) (hE : w0.heap.size ≤ w1.heap.size) : OwnOb w0 W e dv iv pv o := by
  refine ⟨Own.mono h.data hE, ⟨h.items.1, ?_⟩, h.pars.mono hE⟩
  rcases h.items.2 with h2 | ⟨g, cap, cur, hv, hg, r⟩
  · exact .inl h2
  · exact .inr ⟨g, cap, cur, hv, by omega, r⟩
theorem OwnOb.mod {w0 W W' : World} {e : TypeId} {dv iv pv : Value} {o : Ob} {b : Nat} {cs : Array Value} {t : TypeId} (h : OwnOb w0 W e dv iv pv o) (hk : Kp b cs t W) (h1 : t ≠ 5) (h2 : t ≠ e) (h3 : t ≠ 9) (hm : Mod (some b) W W') : OwnOb w0 W' e dv iv pv o :=
  ⟨Own.kept h.data hm (.inr (Ne.symm (h.data.ne hk h1))), h.items.kept hm (.inr (Ne.symm (h.items.neK hk h2))), h.pars.kept hm (.inr (Ne.symm (h.pars.neK hk h3)))⟩
/-- what read hands back -/
def ReadR (w w' : World) (o : Ob) (r : Value) : Prop := Ext w w' ∧ ∃ dv iv pv, r = ObV dv iv pv o ∧ OwnOb w w' 106 dv iv pv o
section
variable {w0 W : World} {rb ab sb : Nat} {dv iv pv : Value} {o : Ob} {s : Src} {k : Unit → World → Prop}
theorem RdSt.fin (h : RdSt w0 W rb ab sb dv iv pv o s) (hd : OwnB w0 W dv o.data) :
    Does Try.prog (Instr.loadAt 72 (.pointer (some ⟨ab, 0, none⟩))) W fun t w => Does Try.prog (Instr.storeAt 72 (.pointer (some ⟨rb, 0, none⟩)) t) w fun _ w => SameP Try.prog (loadRes 72 (.pointer (some ⟨rb, 0, none⟩))) w fun r => ReadR w0 w o r := by
  have hO : OwnOb w0 W 106 dv iv pv o := ⟨hd, h.items, h.pars⟩
  obtain ⟨W', h1, h2, h3⟩ := run_store_o hO.isOb (o := ob0) (dv := .slice none 0 0) (iv := .slice none 0 0) (pv := .slice none 0 0) h.q.krb
  have hO' := hO.mod h.q.krb (by decide) (by decide) (by decide) h3
  exact does_of (run_load_o hO.isOb h.q.kab) (does_of h1 (same_load_o (o := o) hO'.isOb h2 ⟨Mod.ext h.q.e h3 fun k hk => by cases hk; exact h.q.gr, dv, iv, pv, rfl, hO'⟩))
end
end Go.Proofs.Ytcncgkkilgmphaa

set_option linter.unusedVariables false
set_option linter.unusedSimpArgs false
namespace Go.Proofs.Ytcncgkkilgmphaa
open Go Go.RowKit

theorem run_kind_o (k : Int) (w : World) : (Instr.build 72 #[(0, .int .i64 k)]).run Try.prog w = .ok (ObV (.slice none 0 0) (.slice none 0 0) (.slice none 0 0) { ob0 with kind := k }) w := by
  simp [go_sem, Instr.build, ObV, ObC, ob0, noS]
theorem run_buildS {v : Value} (hv : ∃ a n c, v = .slice a n c) (w : World) : (Instr.build 131 #[(0, v)]).run Try.prog w = .ok (.agg #[v, .bool false]) w := by
  obtain ⟨a, n, c, rfl⟩ := hv
  simp [go_sem, Instr.build]
theorem run_boxS {v : Value} (hv : ∃ a n c, v = .slice a n c) (w : World) : (Instr.box 131 (.agg #[v, .bool false])).run Try.prog w = .ok (.pointer (some ⟨w.heap.size, 0, none⟩)) (w.alloc (.cells #[v, .bool false] 131)) := by
  obtain ⟨a, n, c, rfl⟩ := hv
  simp [go_sem, Instr.box]
structure ItSt where
  i : Nat
  iv : Value
  s : Src
  acc : List It
structure PaSt where
  i : Nat
  pv : Value
  s : Src
  acc : List ByteArray
def nilV : Value := .slice none 0 0
theorem RdSt.fin0 {w0 W : World} {rb ab sb : Nat} {iv pv : Value} {o : Ob} {s : Src} (h : RdSt w0 W rb ab sb nilV iv pv o s) (hd : o.data = []) :
    Does Try.prog (Instr.loadAt 72 (.pointer (some ⟨ab, 0, none⟩))) W fun t w => Does Try.prog (Instr.storeAt 72 (.pointer (some ⟨rb, 0, none⟩)) t) w fun _ w => SameP Try.prog (loadRes 72 (.pointer (some ⟨rb, 0, none⟩))) w fun r => ReadR w0 w o r :=
  h.fin (by rw [hd]; exact OwnB.nil _ _)
set_option maxHeartbeats 1000000 in
theorem read_spec {w : World} {v : Value} {l : List UInt8} {kind : Int} (hr : Row w v (bytesV l)) (hl : l.length ≤ 1048576) : Call Try.prog 94 #[.int .i64 kind, v] w fun r w' => ReadR w w' (parse numP kind l).1 r := by
  apply vc94
  unfold V94
  have hvs : ∃ a n c, v = .slice a n c := by obtain ⟨a, c, h⟩ := hr.slice; exact ⟨a, _, c, h⟩
  refine does_of (run_alloc_o w) ?_
  have hE1 := ext_any (.cells (ObC (.slice none 0 0) (.slice none 0 0) (.slice none 0 0) ob0) 72) w
  have hb1 : Kp w.heap.size zObC 72 (w.alloc (.cells (ObC (.slice none 0 0) (.slice none 0 0) (.slice none 0 0) ob0) 72)) := heap_alloc_new w _
  have hs1 : (w.alloc (.cells (ObC (.slice none 0 0) (.slice none 0 0) (.slice none 0 0) ob0) 72)).heap.size = w.heap.size + 1 := by simp
  generalize w.alloc (.cells (ObC (.slice none 0 0) (.slice none 0 0) (.slice none 0 0) ob0) 72) = w1 at hE1 hb1 hs1
  refine does_of (run_kind_o kind w1) (does_of (run_alloc_o w1) ?_)
  have hE2 := ext_any (.cells (ObC (.slice none 0 0) (.slice none 0 0) (.slice none 0 0) ob0) 72) w1
  have hb2 : OBlk (w1.alloc (.cells (ObC (.slice none 0 0) (.slice none 0 0) (.slice none 0 0) ob0) 72)) w1.heap.size 72 (.slice none 0 0) (.slice none 0 0) (.slice none 0 0) ob0 := heap_alloc_new w1 _
  generalize w1.alloc (.cells (ObC (.slice none 0 0) (.slice none 0 0) (.slice none 0 0) ob0) 72) = w2 at hE2 hb2
  obtain ⟨w3, hst, hb3, hm3⟩ := run_store_o (w0 := w) (o' := { ob0 with kind := kind }) ⟨Row.nil _ _ _, IR.nil _ _ _, Row.nil _ _ _⟩ hb2
  refine does_of hst (does_of (run_buildS hvs w3) (does_of (run_boxS hvs w3) ?_))
  have hE3 : Ext w w3 := Mod.ext (hE1.trans hE2) hm3 fun k hk => by cases hk; omega
  have hE4 := ext_any (.cells #[v, .bool false] 131) w3
  have hb4 : Kp w3.heap.size #[v, .bool false] 131 (w3.alloc (.cells #[v, .bool false] 131)) := heap_alloc_new w3 _
  have hrb3 : Kp w.heap.size zObC 72 w3 := (hb1.ext hE2).mod hm3 fun e => by simp at e; omega
  have hSt : RdSt w (w3.alloc (.cells #[v, .bool false] 131)) w.heap.size w1.heap.size w3.heap.size nilV nilV nilV { ob0 with kind := kind } (l, false) :=
    ⟨⟨hE3.trans hE4, hrb3.ext hE4, hb3.ext hE4, ⟨v, hb4, hr⟩, by omega, Nat.le_refl _, by omega, hE3.size, ⟨_, _, _, rfl⟩⟩, Own3.nil _ _ _, Own.nil _ _ _⟩
  generalize w3.alloc (.cells #[v, .bool false] 131) = w4 at hSt
  generalize hrb : w.heap.size = rb at hSt
  generalize hab : w1.heap.size = ab at hSt
  generalize hsb : w3.heap.size = sb at hSt
  have hgs : w.heap.size ≤ sb := hSt.q.gs
  unfold parse
  refine does_of (run_eqI w4) (condP_of (fun hk => ?_) fun hk1 => ?_)
  · have hk : kind = 1 := by simpa using hk
    rw [if_pos hk]
    subst hk
    refine (bclone_spec (hr.ext hSt.q.e) (by omega)).mono fun u w5 ⟨g1, g2⟩ => ?_
    have hS5 := hSt.ext g2
    refine hS5.set1 (l := l) (own_slice g1) fun w6 hS6 hm6 => ?_
    have g1' : OwnB w4 w6 u l := g1.kept hm6 (.inr (Ne.symm (g1.ne hS5.q.abk (by decide))))
    exact hS6.fin (g1'.back hSt.q.e)
  have hk1 : kind ≠ 1 := by simpa using hk1
  rw [if_neg hk1]
  refine does_of (run_eqI w4) (condP_of (fun hk => ?_) fun hk2 => ?_)
  · have hk : kind = 2 := by simpa using hk
    rw [if_pos hk]
    subst hk
    refine (numberS_spec hSt.q.ksb hSt.q.e (by simp only; omega)).mono fun u w5 ⟨h1, h2, h3⟩ => ?_
    subst h1
    have hS5 := hSt.src h3 h2
    have hd0 := numP_down (l, false)
    generalize hT : itemsP numP (numP (l, false)).1 (numP (l, false)).2 [] = T
    refine rounds1 (σ := ItSt) (fun t => .int .i64 t.i) (fun t W => t.i ≤ (numP (l, false)).1 ∧ RdSt w W rb ab sb nilV t.iv nilV { ob0 with kind := 2, items := t.acc } t.s ∧ itemsP numP ((numP (l, false)).1 - t.i) t.s t.acc = T ∧ t.s.1.length + t.acc.length ≤ l.length + (if t.s.2 then 1 else 0) ∧ t.s.1.length ≤ l.length)
      (fun t _ => (numP (l, false)).1 - t.i) ⟨0, nilV, (numP (l, false)).2, []⟩ rfl ⟨Nat.zero_le _, hS5, hT, by simp only [List.length_nil]; have := hd0.1; simp only at this; omega, hd0.1⟩ ?_
    rintro next ⟨i, iv, s, acc⟩ W ⟨hi, hS, hP, hlen, hsl⟩ hnext _
    simp only at hi hS hP hlen hsl ⊢
    refine does_lt ?_
    refine and_join (!s.2) (fun _ j hj => ?_) ?_
    · rw [nilP_some]
      exact hS.q.ksb.load1 (does_of (run_not W) hj)
    refine condP_of (fun hgo => ?_) fun hstop => ?_
    · simp only [Bool.and_eq_true, decide_eq_true_eq, Bool.not_eq_true'] at hgo
      obtain ⟨hlt, hs2⟩ := hgo
      have hlt' : i < (numP (l, false)).1 := by omega
      rw [show (numP (l, false)).1 - i = ((numP (l, false)).1 - (i + 1)) + 1 by omega] at hP
      unfold itemsP at hP
      rw [if_neg (by simp [hs2])] at hP
      have hil := itemP_len numP_down s
      have hnl := getR_le (b := l)
      refine (one_spec hS.q.ksb hS.q.e hS.q.gs).mono fun u W1 ⟨a1, a2, a3⟩ => ?_
      subst a1
      have hS1 := hS.src a3 a2
      have hl1 := (takeP_len s 1).2.2.1
      refine (numberS_spec hS1.q.ksb hS1.q.e (by unfold oneP; simp only; omega)).mono fun u W2 ⟨b1, b2, b3⟩ => ?_
      subst b1
      have hS2 := hS1.src b3 b2
      refine (take_spec hS2.q.ksb).mono fun u W3 ⟨c1, c2, c3⟩ => ?_
      have hS3 := hS2.src c3 c2
      refine does_of (run_conv_str (c1.ext hS3.q.e)) ?_
      rw [hs2] at hlen
      simp only [Bool.false_eq_true, if_false] at hlen
      refine region94_13 hS3 (by simp only; omega) fun W4 iv4 hS4 _ => ?_
      have hnum : (numP (l, false)).1 ≤ 72057594037927936 := by
        unfold numP
        split
        · exact hnl.2.1
        · simp
      refine does_add (by omega) (by omega) (hnext ⟨i + 1, iv4, (itemP numP s).2, acc ++ [(itemP numP s).1]⟩ _ W4 (by simp) ⟨hlt', hS4, hP, ?_, by simp only; omega⟩ (by simp only; omega))
      simp only [List.length_append, List.length_cons, List.length_nil]
      cases hq : (itemP numP s).2.2 with
      | true => simp only [if_true]; omega
      | false => have := hil.2.1 hq; simp only [Bool.false_eq_true, if_false]; omega
    · have hTe : (acc, s) = T := by
        rw [← hP]
        rcases Nat.eq_zero_or_pos ((numP (l, false)).1 - i) with h0 | h0
        · rw [h0]; rfl
        · rw [show (numP (l, false)).1 - i = ((numP (l, false)).1 - (i + 1)) + 1 by omega]
          unfold itemsP
          have hs2 : s.2 = true := by
            simp only [Bool.and_eq_false_iff, decide_eq_false_iff_not, Bool.not_eq_false'] at hstop
            rcases hstop with h | h
            · omega
            · exact h
          rw [if_pos hs2]
      have hfin := hS.fin0 rfl
      rw [← hTe]
      exact hfin
  have hk2 : kind ≠ 2 := by simpa using hk2
  rw [if_neg hk2]
  refine does_of (run_eqI w4) (condP_of (fun hk => ?_) fun hk3 => ?_)
  · have hk : kind = 3 := by simpa using hk
    rw [if_pos hk]
    subst hk
    refine (hashS_spec hSt.q.ksb hSt.q.e hgs).mono fun u w5 ⟨h1, h2, h3⟩ => ?_
    subst h1
    refine (hSt.src h3 h2).set3 fun w6 hS6 => ?_
    have hl1 := (hashP_len (l, false)).1
    have hl2 := (takeP_len (hashP (l, false)).2 1).2.2.1
    refine (one_spec hS6.q.ksb hS6.q.e hgs).mono fun u w7 ⟨a1, a2, a3⟩ => ?_
    subst a1
    have hS7 := hS6.src a3 a2
    generalize hT : hashesP (oneP (hashP (l, false)).2).1 (oneP (hashP (l, false)).2).2 [] = T
    have hN : (oneP (hashP (l, false)).2).1 < 256 := by unfold oneP; exact UInt8.toNat_lt _
    refine rounds1 (σ := PaSt) (fun t => .int .i64 t.i) (fun t W => t.i ≤ (oneP (hashP (l, false)).2).1 ∧ RdSt w W rb ab sb nilV nilV t.pv { ob0 with kind := 3, tree := (hashP (l, false)).1, parents := t.acc } t.s ∧ hashesP ((oneP (hashP (l, false)).2).1 - t.i) t.s t.acc = T ∧ t.s.1.length + t.acc.length ≤ l.length + (if t.s.2 then 1 else 0) ∧ t.s.1.length ≤ l.length)
      (fun t _ => (oneP (hashP (l, false)).2).1 - t.i) ⟨0, nilV, (oneP (hashP (l, false)).2).2, []⟩ rfl ⟨Nat.zero_le _, hS7, hT, by unfold oneP; simp only [List.length_nil]; simp only at hl1; omega, by unfold oneP; simp only at hl1 ⊢; omega⟩ ?_
    rintro next ⟨i, pv, s, acc⟩ W ⟨hi, hS, hP, hlen, hsl⟩ hnext _
    simp only at hi hS hP hlen hsl ⊢
    refine does_lt ?_
    refine and_join (!s.2) (fun _ j hj => ?_) ?_
    · rw [nilP_some]
      exact hS.q.ksb.load1 (does_of (run_not W) hj)
    refine condP_of (fun hgo => ?_) fun hstop => ?_
    · simp only [Bool.and_eq_true, decide_eq_true_eq, Bool.not_eq_true'] at hgo
      obtain ⟨hlt, hs2⟩ := hgo
      have hlt' : i < (oneP (hashP (l, false)).2).1 := by omega
      rw [show (oneP (hashP (l, false)).2).1 - i = ((oneP (hashP (l, false)).2).1 - (i + 1)) + 1 by omega] at hP
      unfold hashesP at hP
      rw [if_neg (by simp [hs2])] at hP
      have hil := hashP_len s
      rw [hs2] at hlen
      simp only [Bool.false_eq_true, if_false] at hlen
      refine region94_20 hS (by simp only; omega) fun W4 pv4 hS4 _ => ?_
      refine does_add (by omega) (by omega) (hnext ⟨i + 1, pv4, (hashP s).2, acc ++ [(hashP s).1]⟩ _ W4 (by simp) ⟨hlt', hS4, hP, ?_, by simp only; omega⟩ (by simp only; omega))
      simp only [List.length_append, List.length_cons, List.length_nil]
      cases hq : (hashP s).2.2 with
      | true => simp only [if_true]; omega
      | false => have := hil.2.1 hq; simp only [Bool.false_eq_true, if_false]; omega
    · have hTe : (acc, s) = T := by
        rw [← hP]
        rcases Nat.eq_zero_or_pos ((oneP (hashP (l, false)).2).1 - i) with h0 | h0
        · rw [h0]; rfl
        · rw [show (oneP (hashP (l, false)).2).1 - i = ((oneP (hashP (l, false)).2).1 - (i + 1)) + 1 by omega]
          unfold hashesP
          have hs2 : s.2 = true := by
            simp only [Bool.and_eq_false_iff, decide_eq_false_iff_not, Bool.not_eq_false'] at hstop
            rcases hstop with h | h
            · omega
            · exact h
          rw [if_pos hs2]
      have d1 := numP_down s
      have d2 := numP_down (numP s).2
      refine (numberS_spec hS.q.ksb hS.q.e (by omega)).mono fun u W1 ⟨b1, b2, b3⟩ => ?_
      subst b1
      have hS1 := hS.src b3 b2
      refine (numberS_spec hS1.q.ksb hS1.q.e (by omega)).mono fun u W2 ⟨c1, c2, c3⟩ => ?_
      subst c1
      have hS2 := hS1.src c3 c2
      refine hS2.set5 fun W3 hS3 => hS3.set6 fun W4 hS4 => ?_
      refine (numberS_spec hS4.q.ksb hS4.q.e (by omega)).mono fun u W5 ⟨e1, e2, e3⟩ => ?_
      subst e1
      have hS5 := hS4.src e3 e2
      refine (take_spec hS5.q.ksb).mono fun u W6 ⟨f1, f2, f3⟩ => ?_
      have hS6 := hS5.src f3 f2
      refine does_of (run_conv_str (f1.ext hS6.q.e)) (hS6.set7 fun W7 hS7 => ?_)
      have hfin := hS7.fin0 rfl
      unfold parseC
      simp only [hT]
      rw [← hTe]
      exact hfin
  · have hk3 : kind ≠ 3 := by simpa using hk3
    rw [if_neg hk3]
    exact hSt.fin0 rfl
end Go.Proofs.Ytcncgkkilgmphaa
