/-
  Contract: marref1.Sum, its drawn regions.
-/
import Derived.Test.YtcncgkkilgmphaaSb
set_option linter.unusedVariables false
set_option linter.unusedSimpArgs false
namespace Go.Proofs.Ytcncgkkilgmphaa
open Go Go.RowKit

def wsl (b n : Nat) : Value := .slice (some ⟨b, 0, none⟩) n n
structure ShSt (w0 W : World) (mv : Value) (hb wb : Nat) (m : List UInt8) (hl ws : List Nat) : Prop where
  e : Ext w0 W
  m : OwnB w0 W mv m
  kh : Kp hb (wordsA hl) 120 W
  kw : Kp wb (wordsA ws) 120 W
  ne : hb ≠ wb
  gh : w0.heap.size ≤ hb
  gw : w0.heap.size ≤ wb
  lh : hl.length = 8
  lw : ws.length = 64
section
variable {w0 W W' : World} {mv : Value} {hb wb : Nat} {m : List UInt8} {hl ws : List Nat}
theorem ShSt.ext (h : ShSt w0 W mv hb wb m hl ws) (hE : Ext W W') : ShSt w0 W' mv hb wb m hl ws := ⟨h.e.trans hE, h.m.ext hE, h.kh.ext hE, h.kw.ext hE, h.ne, h.gh, h.gw, h.lh, h.lw⟩
theorem ShSt.setW (h : ShSt w0 W mv hb wb m hl ws) {i : Nat} (hi : i < 64) (x : Nat) : ShSt w0 (W.setCell ⟨wb, i, none⟩ (u32V x)) mv hb wb m hl (ws.set i x) := by
  have hm := Mod.setCell W wb i (u32V x)
  exact ⟨Mod.ext h.e hm fun k hk => by cases hk; exact h.gw, Own.kept h.m hm (.inr (Ne.symm (h.m.ne h.kw (by decide)))), h.kh.mod hm fun e => h.ne (by cases e; rfl), (h.kw.setWord (by rw [h.lw]; exact hi)).2, h.ne, h.gh, h.gw, h.lh, by simp [h.lw]⟩
theorem ShSt.setH (h : ShSt w0 W mv hb wb m hl ws) {i : Nat} (hi : i < 8) (x : Nat) : ShSt w0 (W.setCell ⟨hb, i, none⟩ (u32V x)) mv hb wb m (hl.set i x) ws := by
  have hm := Mod.setCell W hb i (u32V x)
  exact ⟨Mod.ext h.e hm fun k hk => by cases hk; exact h.gh, Own.kept h.m hm (.inr (Ne.symm (h.m.ne h.kh (by decide)))), (h.kh.setWord (by rw [h.lh]; exact hi)).2, h.kw.mod hm fun e => h.ne (by cases e; rfl), h.ne, h.gh, h.gw, by simp [h.lh], h.lw⟩
theorem ShSt.other {b : Nat} {cs : Array Value} (h : ShSt w0 W mv hb wb m hl ws) (hk : Kp b cs 123 W) (hg : w0.heap.size ≤ b) (hm : Mod (some b) W W') : ShSt w0 W' mv hb wb m hl ws :=
  ⟨Mod.ext h.e hm fun k hk => by cases hk; exact hg, Own.kept h.m hm (.inr (Ne.symm (h.m.ne hk (by decide)))), h.kh.mod hm fun e => h.kh.ne hk (by decide) (by cases e; rfl), h.kw.mod hm fun e => h.kw.ne hk (by decide) (by cases e; rfl), h.ne, h.gh, h.gw, h.lh, h.lw⟩
theorem ShSt.at (h : ShSt w0 W mv hb wb m hl ws) : At w0 W W := ⟨Nat.le_refl _, h.e⟩
end
theorem getE_getD {m : List UInt8} {i : Nat} (h : i < m.length) : m[i]? = some (m.getD i 0) := by simp [List.getD, h]
section
variable {w0 W : World} {mv : Value} {hb wb : Nat} {m : List UInt8} {hl ws : List Nat}
theorem region72_19 {p i : Nat} {J : VF 0} (h : ShSt w0 W mv hb wb m hl ws) (hp : p + 4 ≤ m.length) (hi : i < 64)
    (hml : m.length ≤ 1099511627776) (hJ : ∀ W', ShSt w0 W' mv hb wb m hl (ws.set i (word (m.getD p 0).toNat (m.getD (p + 1) 0).toNat (m.getD (p + 2) 0).toNat (m.getD (p + 3) 0).toNat)) → J W') :
    DrawP Try.prog 305 (opsOf Try.f72 19) [5, 8, 10, 11] [mv, wsl wb 64, .int .i64 i, .int .i64 p] [] J W := by
  obtain ⟨q0, a0, b0⟩ := run_byteAt (W := W) (kk := .i64) h.m.row (getE_getD (i := p) (by omega))
  obtain ⟨q1, a1, b1⟩ := run_byteAt (W := W) (kk := .i64) h.m.row (getE_getD (i := p + 1) (by omega))
  obtain ⟨q2, a2, b2⟩ := run_byteAt (W := W) (kk := .i64) h.m.row (getE_getD (i := p + 2) (by omega))
  obtain ⟨q3, a3, b3⟩ := run_byteAt (W := W) (kk := .i64) h.m.row (getE_getD (i := p + 3) (by omega))
  have l0 := (m.getD p 0).toNat_lt
  have l1 := (m.getD (p + 1) 0).toNat_lt
  have l2 := (m.getD (p + 2) 0).toNat_lt
  have l3 := (m.getD (p + 3) 0).toNat_lt
  have s0 : ((m.getD p 0).toNat <<< 24) % 4294967296 = (m.getD p 0).toNat <<< 24 := by rw [Nat.shiftLeft_eq]; omega
  have s1 : ((m.getD (p + 1) 0).toNat <<< 16) % 4294967296 = (m.getD (p + 1) 0).toNat <<< 16 := by rw [Nat.shiftLeft_eq]; omega
  have s2 : ((m.getD (p + 2) 0).toNat <<< 8) % 4294967296 = (m.getD (p + 2) 0).toNat <<< 8 := by rw [Nat.shiftLeft_eq]; omega
  have z0 : (m.getD p 0).toNat <<< 24 < 4294967296 := by rw [Nat.shiftLeft_eq]; omega
  have z1 : (m.getD (p + 1) 0).toNat <<< 16 < 4294967296 := by rw [Nat.shiftLeft_eq]; omega
  have z2 : (m.getD (p + 2) 0).toNat <<< 8 < 4294967296 := by rw [Nat.shiftLeft_eq]; omega
  refine h72_19 w0 (fun k W' => if k = 0 then ShSt w0 W' mv hb wb m hl ws ∧ Ext W W' else ShSt w0 W' mv hb wb m hl (ws.set i (word (m.getD p 0).toNat (m.getD (p + 1) 0).toNat (m.getD (p + 2) 0).toNat (m.getD (p + 3) 0).toNat))) h.e ⟨h.ext (Ext.drawn W), Ext.drawn W⟩ ?_
  have hc : ∀ {W'}, Stg w0 W (fun k W' => if k = 0 then ShSt w0 W' mv hb wb m hl ws ∧ Ext W W' else ShSt w0 W' mv hb wb m hl (ws.set i (word (m.getD p 0).toNat (m.getD (p + 1) 0).toNat (m.getD (p + 2) 0).toNat (m.getD (p + 3) 0).toNat))) 0 0 W' → Ext W W' := fun hS => by
    obtain ⟨_, k, _, hk, hC⟩ := hS
    have : k = 0 := by omega
    subst this
    exact hC.2
  refine qx a0 (qc (fun W' hS => b0 W' (hc hS)) (qx (run_conv8_32 _) (qx (run_shl32 (k := 24) (by omega)) ?_)))
  rw [s0]
  refine qx (fun W => run_add (by omega) (by omega) W) ?_
  rw [show ((p : Int) + 1) = ((p + 1 : Nat) : Int) by omega]
  refine qx a1 (qc (fun W' hS => b1 W' (hc hS)) (qx (run_conv8_32 _) (qx (run_shl32 (k := 16) (by omega)) ?_)))
  rw [s1]
  refine qx (run_or32 z0 z1) (qx (fun W => run_add (by omega) (by omega) W) ?_)
  rw [show ((p : Int) + 2) = ((p + 2 : Nat) : Int) by omega]
  refine qx a2 (qc (fun W' hS => b2 W' (hc hS)) (qx (run_conv8_32 _) (qx (run_shl32 (k := 8) (by omega)) ?_)))
  rw [s2]
  refine qx (run_or32 (Nat.or_lt_two_pow (n := 32) z0 z1) z2) (qx (fun W => run_add (by omega) (by omega) W) ?_)
  rw [show ((p : Int) + 3) = ((p + 3 : Nat) : Int) by omega]
  refine qx a3 (qc (fun W' hS => b3 W' (hc hS)) (qx (run_conv8_32 _) (qx (run_or32 (Nat.or_lt_two_pow (n := 32) (Nat.or_lt_two_pow (n := 32) z0 z1) z2) (by omega)) (qx (run_wAt hi) ⟨?_, ?_⟩))))
  · intro W1 hA hC
    have hS : ShSt w0 W1 mv hb wb m hl ws := hC.1
    have h2 := hS.setW hi (word (m.getD p 0).toNat (m.getD (p + 1) 0).toNat (m.getD (p + 2) 0).toNat (m.getD (p + 3) 0).toNat)
    exact does_of (hS.kw.setWord (by rw [hS.lw]; exact hi)).1 ⟨⟨(Mod.setCell W1 wb i _).size, h2.e⟩, h2, trivial, trivial⟩
  · intro W1 hA hC
    exact hJ W1 hC
def s0F (x : Nat) : Nat := (trn x 7 ^^^ trn x 18) ^^^ x >>> 3
def s1F (y : Nat) : Nat := (trn y 17 ^^^ trn y 19) ^^^ y >>> 10
theorem shr_lt {x n : Nat} (hx : x < 4294967296) : x >>> n < 4294967296 := Nat.lt_of_le_of_lt (by rw [Nat.shiftRight_eq_div_pow]; exact Nat.div_le_self _ _) hx
theorem xor_lt {a b : Nat} (ha : a < 4294967296) (hb : b < 4294967296) : a ^^^ b < 4294967296 := Nat.xor_lt_two_pow (n := 32) ha hb
theorem qturn {w W : World} {x n : Nat} {k : Value → World → Prop} (hx : x < 4294967296) (hn : n < 32) (hn0 : 0 < n) (hk : k (u32V (trn x n)) w) : QCall Try.prog (Ext W) 93 #[u32V x, .int .i64 n] w k :=
  qcall_of _ (fun W1 hW => (turn_spec hx hn hn0).mono fun v W2 ⟨h1, h2⟩ => ⟨h1, Ext.trans hW h2⟩) hk
theorem region72_23 {i : Nat} {J : VF 1} (h : ShSt w0 W mv hb wb m hl ws) (hi : i < 64) (h16 : 16 ≤ i) (hw : ∀ x ∈ ws, x < 4294967296) (hJ : ∀ W', Ext W W' → J (u32V (s0F (ws.getD (i - 15) 0))) W') :
    DrawP Try.prog 305 (opsOf Try.f72 23) [8, 12] [wsl wb 64, .int .i64 i] [13] J W := by
  have hx := getD_lt hw (i - 15)
  refine q72_23 (Ext W) (Ext.drawn _) fun _ => ?_
  have hsub : ∀ W' : World, (binOp .sub 3 (.int .i64 i) (.int .i64 15)).run Try.prog W' = .ok (.int .i64 ((i - 15 : Nat) : Int)) W' := fun W' => by rw [run_sub (by omega) (by omega)]; congr 2; omega
  have hld : ∀ W', Ext W W' → (Instr.loadAt 120 (.pointer (some ⟨wb, i - 15, none⟩))).run Try.prog W' = .ok (u32V (ws.getD (i - 15) 0)) W' := fun W' hW => (h.kw.ext hW).word (by rw [h.lw]; omega)
  refine qx hsub (qx (run_wAt (by omega)) (qc hld (qturn (n := 7) hx (by omega) (by omega) ?_)))
  refine qx hsub (qx (run_wAt (by omega)) (qc hld (qturn (n := 18) hx (by omega) (by omega) ?_)))
  refine qx (run_xor32 (trn_lt hx) (trn_lt hx)) (qx hsub (qx (run_wAt (by omega)) (qc hld (qx (run_shr32 (k := 3) (by omega)) (qx (run_xor32 (xor_lt (trn_lt hx) (trn_lt hx)) (shr_lt hx)) ?_)))))
  exact hJ
theorem region72_24 {i : Nat} {J : VF 1} (h : ShSt w0 W mv hb wb m hl ws) (hi : i < 64) (h16 : 16 ≤ i) (hw : ∀ x ∈ ws, x < 4294967296) (hJ : ∀ W', Ext W W' → J (u32V (s1F (ws.getD (i - 2) 0))) W') :
    DrawP Try.prog 305 (opsOf Try.f72 24) [8, 12] [wsl wb 64, .int .i64 i] [14] J W := by
  have hx := getD_lt hw (i - 2)
  refine q72_24 (Ext W) (Ext.drawn _) fun _ => ?_
  have hsub : ∀ W' : World, (binOp .sub 3 (.int .i64 i) (.int .i64 2)).run Try.prog W' = .ok (.int .i64 ((i - 2 : Nat) : Int)) W' := fun W' => by rw [run_sub (by omega) (by omega)]; congr 2; omega
  have hld : ∀ W', Ext W W' → (Instr.loadAt 120 (.pointer (some ⟨wb, i - 2, none⟩))).run Try.prog W' = .ok (u32V (ws.getD (i - 2) 0)) W' := fun W' hW => (h.kw.ext hW).word (by rw [h.lw]; omega)
  refine qx hsub (qx (run_wAt (by omega)) (qc hld (qturn (n := 17) hx (by omega) (by omega) ?_)))
  refine qx hsub (qx (run_wAt (by omega)) (qc hld (qturn (n := 19) hx (by omega) (by omega) ?_)))
  refine qx (run_xor32 (trn_lt hx) (trn_lt hx)) (qx hsub (qx (run_wAt (by omega)) (qc hld (qx (run_shr32 (k := 10) (by omega)) (qx (run_xor32 (xor_lt (trn_lt hx) (trn_lt hx)) (shr_lt hx)) ?_)))))
  exact hJ
theorem region72_25 {i x y : Nat} {J : VF 0} (h : ShSt w0 W mv hb wb m hl ws) (hi : i < 64) (h16 : 16 ≤ i)
    (hJ : ∀ W', ShSt w0 W' mv hb wb m hl (ws.set i ((((ws.getD (i - 16) 0 + x) % 4294967296 + ws.getD (i - 7) 0) % 4294967296 + y) % 4294967296)) → J W') :
    DrawP Try.prog 305 (opsOf Try.f72 25) [8, 12, 13, 14] [wsl wb 64, .int .i64 i, u32V x, u32V y] [] J W := by
  refine h72_25 w0 (fun k W' => if k = 0 then ShSt w0 W' mv hb wb m hl ws else ShSt w0 W' mv hb wb m hl (ws.set i ((((ws.getD (i - 16) 0 + x) % 4294967296 + ws.getD (i - 7) 0) % 4294967296 + y) % 4294967296))) h.e (h.ext (Ext.drawn W)) ?_
  have hld : ∀ {k : Nat}, k < 64 → ∀ W', Stg w0 W (fun k W' => if k = 0 then ShSt w0 W' mv hb wb m hl ws else ShSt w0 W' mv hb wb m hl (ws.set i ((((ws.getD (i - 16) 0 + x) % 4294967296 + ws.getD (i - 7) 0) % 4294967296 + y) % 4294967296))) 0 0 W' → (Instr.loadAt 120 (.pointer (some ⟨wb, k, none⟩))).run Try.prog W' = .ok (u32V (ws.getD k 0)) W' := fun {k} hk W' hS => by
    obtain ⟨_, k', _, hk', hC⟩ := hS
    have : k' = 0 := by omega
    subst this
    have hS : ShSt w0 W' mv hb wb m hl ws := hC
    exact hS.kw.word (by rw [hS.lw]; exact hk)
  have hsub : ∀ (k : Nat) (hk : k ≤ i) (W' : World), (binOp .sub 3 (.int .i64 i) (.int .i64 (k : Int))).run Try.prog W' = .ok (.int .i64 ((i - k : Nat) : Int)) W' := fun k hk W' => by rw [run_sub (by omega) (by omega)]; congr 2; omega
  refine qx (hsub 16 h16) (qx (run_wAt (by omega)) (qc (hld (by omega)) (qx (run_add32 _ _) (qx (hsub 7 (by omega)) (qx (run_wAt (by omega)) (qc (hld (by omega)) (qx (run_add32 _ _) (qx (run_add32 _ _) (qx (run_wAt hi) ⟨?_, ?_⟩)))))))))
  · intro W1 hA hC
    have hS : ShSt w0 W1 mv hb wb m hl ws := hC
    have h2 := hS.setW hi ((((ws.getD (i - 16) 0 + x) % 4294967296 + ws.getD (i - 7) 0) % 4294967296 + y) % 4294967296)
    exact does_of (hS.kw.setWord (by rw [hS.lw]; exact hi)).1 ⟨⟨(Mod.setCell W1 wb i _).size, h2.e⟩, h2, trivial, trivial⟩
  · exact fun W1 hA hC => hJ W1 hC
/-! ### a round -/
theorem octW (v : Oct) : v.l.length = 8 := rfl
section
variable {vb : Nat} {v : Oct}
theorem vld (hv : Kp vb (wordsA v.l) 123 W) {i : Nat} (hi : i < 8) : ∀ W', Ext W W' → (Instr.loadAt 120 (.pointer (some ⟨vb, i, none⟩))).run Try.prog W' = .ok (u32V (v.l.getD i 0)) W' := fun W' hW => (hv.ext hW).word (by rw [octW]; exact hi)
theorem region72_31 {J : VF 1} (hv : Kp vb (wordsA v.l) 123 W) (hok : v.Ok) (hJ : ∀ W', Ext W W' → J (u32V ((trn v.e 6 ^^^ trn v.e 11) ^^^ trn v.e 25)) W') :
    DrawP Try.prog 305 (opsOf Try.f72 31) [15] [.pointer (some ⟨vb, 0, none⟩)] [17] J W := by
  refine q72_31 (Ext W) (Ext.drawn _) fun _ => ?_
  have he := hok.e
  refine qx (run_vAt (i := 4) (by omega)) (qc (vld hv (by omega)) (qturn (n := 6) he (by omega) (by omega) ?_))
  refine qx (run_vAt (i := 4) (by omega)) (qc (vld hv (by omega)) (qturn (n := 11) he (by omega) (by omega) (qx (run_xor32 (trn_lt he) (trn_lt he)) ?_)))
  refine qx (run_vAt (i := 4) (by omega)) (qc (vld hv (by omega)) (qturn (n := 25) he (by omega) (by omega) (qx (run_xor32 (xor_lt (trn_lt he) (trn_lt he)) (trn_lt he)) ?_)))
  exact hJ
theorem region72_34 {J : VF 1} (hv : Kp vb (wordsA v.l) 123 W) (hok : v.Ok) (hJ : ∀ W', Ext W W' → J (u32V ((trn v.a 2 ^^^ trn v.a 13) ^^^ trn v.a 22)) W') :
    DrawP Try.prog 305 (opsOf Try.f72 34) [15] [.pointer (some ⟨vb, 0, none⟩)] [20] J W := by
  refine q72_34 (Ext W) (Ext.drawn _) fun _ => ?_
  have he := hok.a
  refine qx (run_vAt (i := 0) (by omega)) (qc (vld hv (by omega)) (qturn (n := 2) he (by omega) (by omega) ?_))
  refine qx (run_vAt (i := 0) (by omega)) (qc (vld hv (by omega)) (qturn (n := 13) he (by omega) (by omega) (qx (run_xor32 (trn_lt he) (trn_lt he)) ?_)))
  refine qx (run_vAt (i := 0) (by omega)) (qc (vld hv (by omega)) (qturn (n := 22) he (by omega) (by omega) (qx (run_xor32 (xor_lt (trn_lt he) (trn_lt he)) (trn_lt he)) ?_)))
  exact hJ
theorem region72_33 {J : VF 1} {kv : Value} {i x y : Nat} (h : ShSt w0 W mv hb wb m hl ws) (hv : Kp vb (wordsA v.l) 123 W) (hk : Row w0 kv (wordsV kK)) (hi : i < 64)
    (hJ : ∀ W', Ext W W' → J (u32V (((((v.h + x) % 4294967296 + y) % 4294967296 + kK.getD i 0) % 4294967296 + ws.getD i 0) % 4294967296)) W') :
    DrawP Try.prog 305 (opsOf Try.f72 33) [3, 8, 15, 16, 17, 18] [kv, wsl wb 64, .pointer (some ⟨vb, 0, none⟩), .int .i64 i, u32V x, u32V y] [19] J W := by
  refine q72_33 (Ext W) (Ext.drawn _) fun _ => ?_
  have hkl : (wordsV kK).length = 64 := rfl
  have hkg : (wordsV kK)[i]'(by rw [hkl]; exact hi) = u32V (kK.getD i 0) := by
    have : i < kK.length := hi
    simp [wordsV, List.getD, this]
  refine qx (run_vAt (i := 7) (by omega)) (qc (vld hv (by omega)) (qx (run_add32 _ _) (qx (run_add32 _ _) ?_)))
  refine q_index (hk.ext h.e) u_words sz_u32 (by rw [hkl]; exact hi) fun p hp => q_load agg_u32 hp ?_
  rw [hkg]
  refine qx (run_add32 _ _) (qx (run_wAt hi) (qc (fun W' hW => (h.kw.ext hW).word (by rw [h.lw]; exact hi)) (qx (run_add32 _ _) ?_)))
  exact hJ
end
/-! ### the ends -/
theorem region72_40 {vb i : Nat} {v : Oct} {J : VF 0} (h : ShSt w0 W mv hb wb m hl ws) (hv : Kp vb (wordsA v.l) 123 W) (hg : w0.heap.size ≤ vb) (hi : i < 8)
    (hJ : ∀ W', ShSt w0 W' mv hb wb m (hl.set i ((hl.getD i 0 + v.l.getD i 0) % 4294967296)) ws → Kp vb (wordsA v.l) 123 W' → J W') :
    DrawP Try.prog 305 (opsOf Try.f72 40) [4, 15, 22] [wsl hb 8, .pointer (some ⟨vb, 0, none⟩), .int .i64 i] [] J W := by
  refine h72_40 w0 (fun k W' => (if k = 0 then ShSt w0 W' mv hb wb m hl ws else ShSt w0 W' mv hb wb m (hl.set i ((hl.getD i 0 + v.l.getD i 0) % 4294967296)) ws) ∧ Kp vb (wordsA v.l) 123 W') h.e ⟨h.ext (Ext.drawn W), hv.ext (Ext.drawn W)⟩ ?_
  have hC : ∀ W', Stg w0 W (fun k W' => (if k = 0 then ShSt w0 W' mv hb wb m hl ws else ShSt w0 W' mv hb wb m (hl.set i ((hl.getD i 0 + v.l.getD i 0) % 4294967296)) ws) ∧ Kp vb (wordsA v.l) 123 W') 0 0 W' → ShSt w0 W' mv hb wb m hl ws ∧ Kp vb (wordsA v.l) 123 W' := fun W' hS => by
    obtain ⟨_, k', _, hk', hC⟩ := hS
    have : k' = 0 := by omega
    subst this
    exact hC
  refine qx (run_wAt hi) (qc (fun W' hS => (hC W' hS).1.kh.word (by rw [h.lh]; exact hi)) (qx (run_vAt hi) (qc (fun W' hS => (hC W' hS).2.word (by rw [octW]; exact hi)) (qx (run_add32 _ _) (qx (run_wAt hi) ⟨?_, ?_⟩)))))
  · intro W1 hA hC
    have hS : ShSt w0 W1 mv hb wb m hl ws := hC.1
    have h2 := hS.setH hi ((hl.getD i 0 + v.l.getD i 0) % 4294967296)
    have hm := Mod.setCell W1 hb i (u32V ((hl.getD i 0 + v.l.getD i 0) % 4294967296))
    exact does_of (hS.kh.setWord (by rw [hS.lh]; exact hi)).1 ⟨⟨hm.size, h2.e⟩, ⟨h2, hC.2.mod hm fun e => hC.2.ne hS.kh (by decide) (by cases e; rfl)⟩, trivial, trivial⟩
  · exact fun W1 hA hC => hJ W1 hC.1 hC.2
theorem run_build4 (a b c d : UInt8) (W : World) : (Instr.buildSlice 34 4 #[(0, u8V a), (1, u8V b), (2, u8V c), (3, u8V d)]).run Try.prog W = .ok (.slice (some ⟨W.heap.size, 0, none⟩) 4 4) (W.alloc (.cells #[u8V a, u8V b, u8V c, u8V d] 5)) := by
  simp [go_sem, Instr.buildSlice, u8V]
theorem own_four8 (a b c d : UInt8) (W : World) : OwnB W (W.alloc (.cells #[u8V a, u8V b, u8V c, u8V d] 5)) (.slice (some ⟨W.heap.size, 0, none⟩) 4 4) [a, b, c, d] :=
  ⟨rfl, .inr ⟨W.heap.size, 4, #[u8V a, u8V b, u8V c, u8V d], rfl, Nat.le_refl _, heap_alloc_new W _, Nat.le_refl _, by simp [maxLen], rfl, rfl⟩⟩
theorem region72_45 {i : Nat} {ov : Value} {l : List UInt8} {J : VF 1} (hE : Ext w0 W) (hk : Kp hb (wordsA hl) 120 W) (hlh : hl.length = 8) (hi : i < 8) (ho : OwnB w0 W ov l) (hll : l.length ≤ 1048576)
    (hJ : ∀ v W', Ext w0 W' → Kp hb (wordsA hl) 120 W' → OwnB w0 W' v (l ++ out4 (hl.getD i 0)) → J v W') :
    DrawP Try.prog 305 (opsOf Try.f72 45) [4, 23, 24] [wsl hb 8, ov, .int .i64 i] [23] J W := by
  refine h72_45 w0 (StK w0 hb (wordsA hl) 120 0 ov l) (FrB 0 (out4 (hl.getD i 0))) (FoB w0 1 (l ++ out4 (hl.getD i 0))) hE (FrB.st _ _) (FoB.st _ _ _) ⟨hk.ext (Ext.drawn W), fun _ => ho.ext (Ext.drawn W)⟩ ?_
  have hld : ∀ W', Stg w0 W (StK w0 hb (wordsA hl) 120 0 ov l) 0 1 W' → (Instr.loadAt 120 (.pointer (some ⟨hb, i, none⟩))).run Try.prog W' = .ok (u32V (hl.getD i 0)) W' := fun W' hS => by
    obtain ⟨_, k', _, _, hC⟩ := hS
    exact hC.1.word (by rw [hlh]; exact hi)
  have e24 : UInt8.ofNat (hl.getD i 0 >>> 24) = UInt8.ofNat (hl.getD i 0 / 2 ^ 24) := by rw [Nat.shiftRight_eq_div_pow]
  have e16 : UInt8.ofNat (hl.getD i 0 >>> 16) = UInt8.ofNat (hl.getD i 0 / 2 ^ 16) := by rw [Nat.shiftRight_eq_div_pow]
  have e8 : UInt8.ofNat (hl.getD i 0 >>> 8) = UInt8.ofNat (hl.getD i 0 / 2 ^ 8) := by rw [Nat.shiftRight_eq_div_pow]
  refine qx (run_wAt hi) (qc hld (qx (run_shr32 (k := 24) (by omega)) (qx (run_conv32_8 _) ?_)))
  refine qx (run_wAt hi) (qc hld (qx (run_shr32 (k := 16) (by omega)) (qx (run_conv32_8 _) ?_)))
  refine qx (run_wAt hi) (qc hld (qx (run_shr32 (k := 8) (by omega)) (qx (run_conv32_8 _) ?_)))
  refine qx (run_wAt hi) (qc hld (qx (run_conv32_8 _) ⟨?_, ?_, ?_⟩))
  · intro W1 hA hC
    refine does_of (run_build4 _ _ _ _ W1) ⟨ext_any _ W1, hC.ext (ext_any _ W1), fun _ => ?_⟩
    have := (own_four8 (UInt8.ofNat (hl.getD i 0 >>> 24)) (UInt8.ofNat (hl.getD i 0 >>> 16)) (UInt8.ofNat (hl.getD i 0 >>> 8)) (UInt8.ofNat (hl.getD i 0)) W1).row
    rw [show out4 (hl.getD i 0) = [UInt8.ofNat (hl.getD i 0 >>> 24), UInt8.ofNat (hl.getD i 0 >>> 16), UInt8.ofNat (hl.getD i 0 >>> 8), UInt8.ofNat (hl.getD i 0)] by rw [e24, e16, e8]; rfl]
    exact this
  · intro t W1 hA hC hF
    exact (hC.2 rfl).appendR hA.2 (hF rfl) (by simp [out4]; omega) fun v2 W2 g1 g2 g3 => ⟨⟨g3.size, g2⟩, ⟨hC.1.mod g3 ((hC.2 rfl).ne hC.1 (by decide)), vac (by omega)⟩, fun _ => g1, (by intros; exact FrB.off (by omega)), trivial⟩
  · exact fun t W1 hA hC hF => hJ t W1 hA.2 hC.1 (hF rfl)
end
end Go.Proofs.Ytcncgkkilgmphaa
