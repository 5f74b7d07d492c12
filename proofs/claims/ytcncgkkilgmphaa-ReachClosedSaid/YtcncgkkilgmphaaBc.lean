/-
  Rows of bytes of the call's own: appending, reading, texts of them.
-/
import Derived.Test.YtcncgkkilgmphaaBb
set_option linter.unusedVariables false
set_option linter.unusedSimpArgs false
namespace Go.Proofs.Ytcncgkkilgmphaa
open Go Go.RowKit

theorem ex1 {P : Program} {a : Value} {w : World} {k : Value → World → Prop} (hk : k a w) : Does P (Instr.extract (.tuple #[a]) 0) w k := does_extract (x := a) rfl hk
theorem ex2a {P : Program} {a b : Value} {w : World} {k : Value → World → Prop} (hk : k a w) : Does P (Instr.extract (.tuple #[a, b]) 0) w k := does_extract (x := a) rfl hk
theorem ex2b {P : Program} {a b : Value} {w : World} {k : Value → World → Prop} (hk : k b w) : Does P (Instr.extract (.tuple #[a, b]) 1) w k := does_extract (x := b) rfl hk
theorem ex3a {P : Program} {a b c : Value} {w : World} {k : Value → World → Prop} (hk : k a w) : Does P (Instr.extract (.tuple #[a, b, c]) 0) w k := does_extract (x := a) rfl hk
theorem ex3b {P : Program} {a b c : Value} {w : World} {k : Value → World → Prop} (hk : k b w) : Does P (Instr.extract (.tuple #[a, b, c]) 1) w k := does_extract (x := b) rfl hk
theorem ex3c {P : Program} {a b c : Value} {w : World} {k : Value → World → Prop} (hk : k c w) : Does P (Instr.extract (.tuple #[a, b, c]) 2) w k := does_extract (x := c) rfl hk
theorem qx {P : Program} {C : World → Prop} {s : Sem Value} {v : Value} {w : World} {k : Value → World → Prop} (h : ∀ W, s.run P W = .ok v W) (hk : k v w) : Quiet P C s w k := q_of h hk
theorem qc {P : Program} {C : World → Prop} {s : Sem Value} {v : Value} {w : World} {k : Value → World → Prop} (h : ∀ W, C W → s.run P W = .ok v W) (hk : k v w) : Quiet P C s w k := ⟨v, h, hk⟩
/-- a row of bytes that was made since w0 -/
def OwnB (w0 W : World) (v : Value) (l : List UInt8) : Prop := Own W w0.heap.size 5 v (bytesV l)
theorem OwnB.row {w0 W : World} {v : Value} {l : List UInt8} (h : OwnB w0 W v l) : Row W v (bytesV l) := Own.row h
theorem OwnB.ext {w0 W W' : World} {v : Value} {l : List UInt8} (h : OwnB w0 W v l) (hE : Ext W W') : OwnB w0 W' v l := Own.ext h hE
theorem OwnB.nil (w0 W : World) : OwnB w0 W (.slice none 0 0) [] := Own.nil _ _ _
theorem OwnB.back {w0 w1 W : World} {v : Value} {l : List UInt8} (h : OwnB w1 W v l) (hE : Ext w0 w1) : OwnB w0 W v l := Own.mono h hE.size
section
variable {w0 W : World} {v : Value} {l : List UInt8} {k : Value → World → Prop}
theorem OwnB.appendR {ty : TypeId} {x : Value} {m : List UInt8} (ho : OwnB w0 W v l) (hE : Ext w0 W) (hr : Row W x (bytesV m)) (hl : l.length + m.length ≤ 1099511627776)
    (hk : ∀ v' W', OwnB w0 W' v' (l ++ m) → Ext w0 W' → Mod v.ownBlock W W' → k v' W') : Does Try.prog (Builtin.append_ #[34, 34] ty #[v, x]) W k := by
  refine Own.append ho u_bytes info_u8 rfl hr (bytesV_one m) (by simp; omega) (by omega) hE.size fun v' W' h1 h2 h3 => hk v' W' ?_ (hE.grownOwn ho h2) h2
  unfold OwnB
  rw [bytesV_append]
  exact h1
theorem strCells_bytesV (s : ByteArray) : Lib.strCells s = bytesV (bs s) := rfl
theorem OwnB.appendS {ty : TypeId} {s : ByteArray} (ho : OwnB w0 W v l) (hE : Ext w0 W) (hl : l.length + s.size ≤ 1099511627776)
    (hk : ∀ v' W', OwnB w0 W' v' (l ++ bs s) → Ext w0 W' → Mod v.ownBlock W W' → k v' W') : Does Try.prog (Builtin.append_ #[34, 9] ty #[v, .string s]) W k := by
  obtain ⟨i0, hi0, hzz⟩ := Option.map_eq_some_iff.1 info_u8
  simp only [Prod.mk.injEq] at hzz
  obtain ⟨hz0, hz1, hz2⟩ := hzz
  obtain ⟨v', W', h1, h2, h3, _⟩ := Lib.run_append_own_string (P := Try.prog) W w0.heap.size 34 9 ty 5 i0 u_bytes u_string hi0 hz0 hz1 hz2 v (bytesV l).length (bytesV l) ho s (by simp [maxLen]; omega) (by simp; omega) hE.size
  refine does_of h1 (hk v' W' ?_ (hE.grownOwn ho h3) h3)
  unfold OwnB
  rw [bytesV_append]
  have : (bytesV l).length + s.size = (bytesV l ++ bytesV (bs s)).length := by simp [bs_length]
  rw [this] at h2
  exact h2
theorem run_build1 (x : UInt8) (W : World) : (Instr.buildSlice 34 1 #[(0, u8V x)]).run Try.prog W = .ok (.slice (some ⟨W.heap.size, 0, none⟩) 1 1) (W.alloc (.cells #[u8V x] 5)) :=
  run_buildSlice1 u_bytes sz_u8 zero_u8 rfl rfl W
theorem own_one (x : UInt8) (W : World) : OwnB W (W.alloc (.cells #[u8V x] 5)) (.slice (some ⟨W.heap.size, 0, none⟩) 1 1) [x] := own_single 5 (u8V x) (Nat.le_refl _)
theorem ext_one (x : UInt8) (W : World) : Ext W (W.alloc (.cells #[u8V x] 5)) := (Ext.refl W).alloc _
/-- append of one byte -/
theorem OwnB.push {ty : TypeId} {x : UInt8} (ho : OwnB w0 W v l) (hE : Ext w0 W) (hl : l.length + 1 ≤ 1099511627776)
    (hk : ∀ v' W', OwnB w0 W' v' (l ++ [x]) → Ext w0 W' → Mod v.ownBlock W W' → k v' W') : Does Try.prog (Instr.buildSlice 34 1 #[(0, u8V x)]) W fun t w => Does Try.prog (Builtin.append_ #[34, 34] ty #[v, t]) w k := by
  refine does_of (run_build1 x W) ?_
  refine OwnB.appendR (ho.ext (ext_one x W)) (hE.trans (ext_one x W)) (own_one x W).row (by simpa using hl) fun v' W' h1 h2 h3 => hk v' W' h1 h2 ((Mod.ofExt (ext_one x W)).trans h3)
end
theorem bytesV_eq (l : List UInt8) : bytesV l = (l.map fun b => (b.toNat : Int)).map (Value.int .u8) := by simp [bytesV]
theorem nums_mkS (l : List UInt8) : strOfNums (l.map fun b => (b.toNat : Int)) = mkS l := by
  unfold strOfNums mkS
  congr 1
  rw [List.map_map]
  congr 1
  conv => rhs; rw [← List.map_id l]
  exact List.map_congr_left fun x _ => by simp
/-- string(b) -/
theorem run_conv_str {w : World} {v : Value} {l : List UInt8} (h : Row w v (bytesV l)) : (convert 34 9 v).run Try.prog w = .ok (.string (mkS l)) w := by
  obtain ⟨a, c, rfl, hl, hc⟩ := h
  cases a with
  | none =>
    have : l = [] := by
      cases l with
      | nil => rfl
      | cons x l => obtain ⟨ad, h1, _⟩ := hc 0 (u8V x) (by simp [bytesV, u8V]); cases h1
    subst this
    rw [run_convert_bytes_nil w 34 5 u_bytes u_u8 _ _ 9 u_string]
    rfl
  | some ad =>
    have hload : (loadCells ad l.length).run Try.prog w = .ok (((l.map fun b => (b.toNat : Int)).map (Value.int .u8))).toArray w := by
      have := run_loadCells_list (P := Try.prog) w ad ((l.map fun b => (b.toNat : Int)).map (Value.int .u8)) (fun j v hj => by
        rw [← bytesV_eq] at hj
        obtain ⟨ad', h1, h2⟩ := hc j v hj
        cases h1; exact h2)
      simpa using this
    rw [bytesV_length, run_convert_bytes_string w 34 9 5 _ _ _ u_bytes u_u8 u_string, run_bytesToString w _ _ _ _ hload, foldl_push_bytes]
    congr 2
    rw [← nums_mkS l]
    simp [strOfNums, ByteArray.empty, ByteArray.emptyWithCapacity]
    rfl
section
variable {P : Program} {w : World} {k : Value → World → Prop}
theorem does_byteAt {w0 : World} {v : Value} {l : List UInt8} {i : Nat} {kk : IntKind} {x : UInt8} (hr : Row w0 v (bytesV l)) (hE : Ext w0 w) (hx : l[i]? = some x) (hk : k (u8V x) w) :
    Does Try.prog (Instr.indexAt 34 v (.int kk (i : Nat))) w fun t w => Does Try.prog (Instr.loadAt 5 t) w k := by
  obtain ⟨hi, hxi⟩ := List.getElem?_eq_some_iff.1 hx
  refine (hr.ext hE).index u_bytes sz_u8 (by simpa using hi) fun p hp => does_load1 agg_u8 hp ?_
  rw [bytesV_get hi, hxi]
  exact hk
theorem run_byteAt {w0 W : World} {v : Value} {l : List UInt8} {i : Nat} {kk : IntKind} {x : UInt8} (hr : Row w0 v (bytesV l)) (hx : l[i]? = some x) :
    ∃ p, (∀ W, (Instr.indexAt 34 v (.int kk (i : Nat))).run Try.prog W = .ok (.pointer (some p)) W) ∧ ∀ W, Ext w0 W → (Instr.loadAt 5 (.pointer (some p))).run Try.prog W = .ok (u8V x) W := by
  obtain ⟨a, c, rfl, hl, hc⟩ := hr
  obtain ⟨hi, hxi⟩ := List.getElem?_eq_some_iff.1 hx
  obtain ⟨ad, rfl, hcell⟩ := hc i (u8V x) (by rw [← hxi]; simp [bytesV, u8V, hi])
  have he : Try.prog.elem 34 = 5 := by simp [Program.elem, u_bytes]
  refine ⟨ad.add i, fun W => ?_, fun W hE => run_load1 agg_u8 (hE.cell hcell)⟩
  rw [run_indexAt_slice (h := by rw [he]; exact u_bytes), if_pos ⟨by omega, by simp; omega⟩, he, sz_u8]
  simp only [Result.andThen_ok, Nat.mul_one, Int.toNat_natCast]
theorem q_byteAt {w0 : World} {v : Value} {l : List UInt8} {i : Nat} {kk : IntKind} {x : UInt8} (hr : Row w0 v (bytesV l)) (hx : l[i]? = some x) (hk : k (u8V x) w) :
    Quiet Try.prog (Ext w0) (Instr.indexAt 34 v (.int kk (i : Nat))) w fun t w => Quiet Try.prog (Ext w0) (Instr.loadAt 5 t) w k := by
  obtain ⟨p, h1, h2⟩ := run_byteAt (W := w0) (kk := kk) hr hx
  exact q_of h1 ⟨_, h2, hk⟩
theorem bs_get {s : ByteArray} {i : Nat} {x : UInt8} (hx : (bs s)[i]? = some x) : ∃ h : i < s.size, s[i] = x := by
  obtain ⟨hi, hxi⟩ := List.getElem?_eq_some_iff.1 hx
  have : i < s.size := by rw [← bs_length]; exact hi
  refine ⟨this, ?_⟩
  rw [← hxi]
  rfl
/-- s[i] -/
theorem run_strAt {s : ByteArray} {i : Nat} {kk : IntKind} {x : UInt8} (hx : (bs s)[i]? = some x) (w : World) : (Instr.index 9 (.string s) (.int kk (i : Nat))).run Try.prog w = .ok (u8V x) w := by
  obtain ⟨h1, h2⟩ := bs_get hx
  rw [run_index_string w 9 s kk i u_string, dif_pos ⟨by omega, by omega⟩]
  unfold u8V
  rw [← h2]
  rfl
theorem run_lenStr {s : ByteArray} (ty : TypeId) (w : World) : (Builtin.len_ #[9] ty #[.string s]).run Try.prog w = .ok (.int .i64 ((bs s).length : Nat)) w := by
  rw [run_len_string w 9 ty s u_string, bs_length]; rfl
theorem bs_le {s : ByteArray} (h : s.size ≤ maxLen) : (bs s).length ≤ 9223372036854775807 := by rw [bs_length]; simpa [maxLen] using h
/-- comparing bytes -/
theorem run_lt8 {t : TypeId} (x y : UInt8) (w : World) : (binOp .lss t (u8V x) (u8V y)).run P w = .ok (.bool (decide (x.toNat < y.toNat))) w := by
  unfold u8V; rw [run_lt]; congr 2; simp
theorem run_gt8 {t : TypeId} (x y : UInt8) (w : World) : (binOp .gtr t (u8V x) (u8V y)).run P w = .ok (.bool (decide (y.toNat < x.toNat))) w := by
  unfold u8V; rw [run_gt]; congr 2; simp
theorem run_eq8 {t : TypeId} {o o' : Operand} (x y : UInt8) (w : World) : (eqE .eql t o o' (u8V x) (u8V y)).run P w = .ok (.bool (decide (x = y))) w := by
  unfold u8V; rw [run_eqI]; congr 2; rw [decide_eq_decide, ← UInt8.toNat_inj]; omega
theorem run_ne8 {t : TypeId} {o o' : Operand} (x y : UInt8) (w : World) : (eqE .neq t o o' (u8V x) (u8V y)).run P w = .ok (.bool (!decide (x = y))) w := by
  unfold u8V; rw [run_neI]; congr 3; rw [decide_eq_decide, ← UInt8.toNat_inj]; omega
end
/-- a block is as it was -/
def Kp (b : Nat) (cs : Array Value) (t : TypeId) (W : World) : Prop := W.heap[b]? = some (.cells cs t)
theorem Kp.ext {b : Nat} {cs : Array Value} {t : TypeId} {W W' : World} (h : Kp b cs t W) (hE : Ext W W') : Kp b cs t W' := hE.block h
theorem Kp.mod {b : Nat} {cs : Array Value} {t : TypeId} {W W' : World} {row : Option Nat} (h : Kp b cs t W) (hm : Mod row W W') (hne : some b ≠ row) : Kp b cs t W' := (hm.block b (Array.getElem?_eq_some_iff.1 h).1 hne).trans h
theorem OwnB.ne {w0 W : World} {v : Value} {l : List UInt8} {b : Nat} {cs : Array Value} {t : TypeId} (h : OwnB w0 W v l) (hk : Kp b cs t W) (ht : t ≠ 5) : some b ≠ v.ownBlock := fun e => by
  rcases h.2 with ⟨rfl, h0⟩ | ⟨g, cap, cur, rfl, hb, hg, _⟩
  · simp [Value.ownBlock] at e
  · simp [Value.ownBlock] at e
    subst e
    unfold Kp at hk
    rw [hg] at hk
    simp only [Option.some.injEq, Obj.cells.injEq] at hk
    exact ht hk.2.1.symm
end Go.Proofs.Ytcncgkkilgmphaa
