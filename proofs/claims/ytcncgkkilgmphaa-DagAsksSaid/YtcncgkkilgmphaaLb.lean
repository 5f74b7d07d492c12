/-
  The law DagAsks: what the chapter's example fixes.
-/
import Derived.Test.YtcncgkkilgmphaaLa
set_option linter.unusedVariables false
set_option linter.unusedSimpArgs false
namespace Go.Proofs.Ytcncgkkilgmphaa
open Go Go.RowKit

def bA : ByteArray := ⟨#[65]⟩
def bB : ByteArray := ⟨#[66]⟩
def bC : ByteArray := ⟨#[67]⟩
def bD : ByteArray := ⟨#[68]⟩
def bE : ByteArray := ⟨#[69]⟩
def g1 : List Cm := [⟨bA, [], 0⟩]
def g2 : List Cm := [⟨bA, [], 0⟩, ⟨bB, [bA], 1⟩]
def g3 : List Cm := [⟨bA, [], 0⟩, ⟨bB, [bA], 1⟩, ⟨bC, [bA], 1⟩]
def g4 : List Cm := [⟨bA, [], 0⟩, ⟨bB, [bA], 1⟩, ⟨bC, [bA], 1⟩, ⟨bD, [bB, bC], 2⟩]
def g5 : List Cm := [⟨bA, [], 0⟩, ⟨bB, [bA], 1⟩, ⟨bC, [bA], 1⟩, ⟨bD, [bB, bC], 2⟩, ⟨bE, [bB, bC], 2⟩]
theorem a1 : (addG [] bA [] 0).2 = g1 := by kernel_rfl
theorem a2 : (addG g1 bB [bA] 1).2 = g2 := by kernel_rfl
theorem a3 : (addG g2 bC [bA] 1).2 = g3 := by kernel_rfl
theorem a4 : (addG g3 bD [bB, bC] 2).2 = g4 := by kernel_rfl
theorem a5 : (addG g4 bE [bB, bC] 2).2 = g5 := by kernel_rfl
theorem pA : par g5 bA = [] := by kernel_rfl
theorem pB : par g5 bB = [bA] := by kernel_rfl
theorem pC : par g5 bC = [bA] := by kernel_rfl
theorem pD : par g5 bD = [bB, bC] := by kernel_rfl
theorem pE : par g5 bE = [bB, bC] := by kernel_rfl
theorem kn : known g5 [bE, bD] = true := by kernel_rfl
theorem ancD (k : ByteArray) : Anc g5 [bD] k ↔ k ∈ [bD, bB, bC, bA] := by
  constructor
  · intro h
    induction h with
    | base h => rw [List.mem_singleton.1 h]; simp
    | step _ hp ih =>
      simp only [List.mem_cons, List.not_mem_nil, or_false] at ih
      rcases ih with rfl | rfl | rfl | rfl
      · rw [pD] at hp; simp at hp; rcases hp with rfl | rfl <;> simp
      · rw [pB] at hp; simp at hp; subst hp; simp
      · rw [pC] at hp; simp at hp; subst hp; simp
      · rw [pA] at hp; cases hp
  · intro h
    have hd : Anc g5 [bD] bD := .base (by simp)
    have hb : Anc g5 [bD] bB := .step hd (by rw [pD]; simp)
    simp only [List.mem_cons, List.not_mem_nil, or_false] at h
    rcases h with rfl | rfl | rfl | rfl
    · exact hd
    · exact hb
    · exact .step hd (by rw [pD]; simp)
    · exact .step hb (by rw [pB]; simp)
theorem ancE (k : ByteArray) : Anc g5 [bE] k ↔ k ∈ [bE, bB, bC, bA] := by
  constructor
  · intro h
    induction h with
    | base h => rw [List.mem_singleton.1 h]; simp
    | step _ hp ih =>
      simp only [List.mem_cons, List.not_mem_nil, or_false] at ih
      rcases ih with rfl | rfl | rfl | rfl
      · rw [pE] at hp; simp at hp; rcases hp with rfl | rfl <;> simp
      · rw [pB] at hp; simp at hp; subst hp; simp
      · rw [pC] at hp; simp at hp; subst hp; simp
      · rw [pA] at hp; cases hp
  · intro h
    have hd : Anc g5 [bE] bE := .base (by simp)
    have hb : Anc g5 [bE] bB := .step hd (by rw [pE]; simp)
    simp only [List.mem_cons, List.not_mem_nil, or_false] at h
    rcases h with rfl | rfl | rfl | rfl
    · exact hd
    · exact hb
    · exact .step hd (by rw [pE]; simp)
    · exact .step hb (by rw [pB]; simp)
theorem ne1 : bB ≠ bA := by decide
theorem ne2 : bC ≠ bA := by decide
theorem ne3 : bD ∉ [bE, bB, bC, bA] := by decide
theorem lt1 : blt bB bC = true := by kernel_rfl
theorem basesDE : SetOf (Near g5 fun k => Anc g5 [bD] k ∧ Anc g5 [bE] k) [bB, bC] := by
  refine ⟨List.pairwise_cons.2 ⟨fun y hy => by rw [List.mem_singleton.1 hy]; exact lt1, List.pairwise_singleton _ _⟩, fun k => ?_⟩
  have hq : ∀ k, (Anc g5 [bD] k ∧ Anc g5 [bE] k) ↔ k = bB ∨ k = bC ∨ k = bA := by
    intro k
    rw [ancD, ancE]
    constructor
    · rintro ⟨h1, h2⟩
      simp only [List.mem_cons, List.not_mem_nil, or_false] at h1
      rcases h1 with rfl | h1
      · exact absurd h2 ne3
      · exact h1
    · rintro (rfl | rfl | rfl) <;> simp
  unfold Near
  simp only [hq]
  constructor
  · intro h
    simp only [List.mem_cons, List.not_mem_nil, or_false] at h
    rcases h with rfl | rfl
    · refine ⟨.inl rfl, ?_⟩
      rintro ⟨k', rfl | rfl | rfl, hp⟩
      · rw [pB] at hp; exact ne1 (List.mem_singleton.1 hp)
      · rw [pC] at hp; exact ne1 (List.mem_singleton.1 hp)
      · rw [pA] at hp; cases hp
    · refine ⟨.inr (.inl rfl), ?_⟩
      rintro ⟨k', rfl | rfl | rfl, hp⟩
      · rw [pB] at hp; exact ne2 (List.mem_singleton.1 hp)
      · rw [pC] at hp; exact ne2 (List.mem_singleton.1 hp)
      · rw [pA] at hp; cases hp
  · rintro ⟨rfl | rfl | rfl, h2⟩
    · simp
    · simp
    · exact absurd ⟨bB, .inl rfl, by rw [pB]; simp⟩ h2
theorem good5 : Good g5 2 := by
  have h1 := good_add (G := []) (id := bA) (ps := []) (st := 0) (good_nil 2) (by simp) (by omega)
  rw [a1] at h1
  have h2 := good_add (id := bB) (ps := [bA]) (st := 1) h1 (by simp) (by omega)
  rw [a2] at h2
  have h3 := good_add (id := bC) (ps := [bA]) (st := 1) h2 (by simp) (by omega)
  rw [a3] at h3
  have h4 := good_add (id := bD) (ps := [bB, bC]) (st := 2) h3 (by simp) (by omega)
  rw [a4] at h4
  have h5 := good_add (id := bE) (ps := [bB, bC]) (st := 2) h4 (by simp) (by omega)
  rw [a5] at h5
  exact h5
theorem run_buildSlice2 (b c : ByteArray) (w : World) : (Instr.buildSlice 23 2 #[(0, .string b), (1, .string c)]).run Try.prog w = .ok (.slice (some ⟨w.heap.size, 0, none⟩) 2 2) (w.alloc (.cells #[.string b, .string c] 9)) := by
  simp [go_sem, Instr.buildSlice]
theorem own_two {w : World} {base : Nat} (e : TypeId) (x y : Value) (hb : base ≤ w.heap.size) : Own (w.alloc (.cells #[x, y] e)) base e (.slice (some ⟨w.heap.size, 0, none⟩) 2 2) [x, y] :=
  ⟨rfl, .inr ⟨w.heap.size, 2, #[x, y], rfl, hb, heap_alloc_new w _, Nat.le_refl _, by simp [maxLen], rfl, rfl⟩⟩
theorem first_add {w W : World} {g pv : Value} {G G' : List Cm} {id : ByteArray} {ps : List ByteArray} {st : Int} (hE : Ext w W) (h : PG W (fun k => w.heap.size ≤ k) g G) (hr : Row W pv (strsV ps)) (hl : ps.length ≤ 1099511627776) (e : (addG G id ps st).2 = G') :
    Call Try.prog 22 #[g, .string id, pv, .int .i64 st] W fun v W' => Ext w W' ∧ PG W' (fun k => w.heap.size ≤ k) g G' := by
  refine (dadd_spec h hr hl).mono fun v W' ⟨_, h2, h3⟩ => ⟨ModIn.ext hE h2 fun k hk => by omega, ?_⟩
  rw [e] at h3
  exact h3.mono fun k _ hk => hk.elim (fun h => h) fun h => Nat.le_trans hE.size h
theorem run_eqP {t : TypeId} {x y : Operand} {a : Addr} (w : World) (hm : Try.prog.underlying t = some (.pointer 92)) : (eqE .eql t x y (.pointer (some a)) (.pointer none)).run Try.prog w = .ok (.bool false) w := by
  simp [eqE, eqGuard, go_sem, hm]
theorem u_graph : Try.prog.underlying 45 = some (.pointer 92) := by kernel_rfl
theorem askD : AskOk g5 [bD] 2 := ⟨good5.fits, by decide, by decide⟩
theorem askE : AskOk g5 [bE] 2 := ⟨good5.fits, by decide, by decide⟩
set_option maxHeartbeats 1000000 in
theorem first_spec {w : World} : Call Try.prog 18 #[] w fun v w' => v = .bool true ∧ Ext w w' := by
  refine vc18 (_u := ()) ?_
  unfold V18
  refine new_spec.mono fun g w1 ⟨hE1, hg1⟩ => ?_
  obtain ⟨gb, hgv⟩ : ∃ gb, g = .pointer (some ⟨gb, 0, none⟩) := by obtain ⟨gb, mb, l, h, _⟩ := hg1; exact ⟨gb, h⟩
  subst hgv
  refine does_of (run_eqP w1 u_graph) ?_
  rw [condP_false]
  refine (first_add (id := bA) (ps := []) (st := 0) hE1 hg1 (Row.nil _ _ _) (by simp) a1).mono fun _ w2 ⟨hE2, hg2⟩ => ?_
  have one : ∀ (W : World) (b : ByteArray), Ext W (W.alloc (.cells #[.string b] 9)) ∧ Row (W.alloc (.cells #[.string b] 9)) (.slice (some ⟨W.heap.size, 0, none⟩) 1 1) (strsV [b]) := fun W b =>
    ⟨(Ext.refl W).alloc _, (own_single (base := 0) 9 (.string b) (Nat.zero_le _)).row⟩
  have two : ∀ (W : World) (b c : ByteArray), Ext W (W.alloc (.cells #[.string b, .string c] 9)) ∧ Row (W.alloc (.cells #[.string b, .string c] 9)) (.slice (some ⟨W.heap.size, 0, none⟩) 2 2) (strsV [b, c]) := fun W b c =>
    ⟨(Ext.refl W).alloc _, (own_two (base := 0) 9 (.string b) (.string c) (Nat.zero_le _)).row⟩
  refine does_of (run_buildSlice1 u_strs sz_str zero_str rfl rfl w2) ?_
  obtain ⟨e2, r2⟩ := one w2 bA
  refine (first_add (id := bB) (ps := [bA]) (st := 1) (hE2.trans e2) (hg2.ext e2) r2 (by simp) a2).mono fun _ w3 ⟨hE3, hg3⟩ => ?_
  refine does_of (run_buildSlice1 u_strs sz_str zero_str rfl rfl w3) ?_
  obtain ⟨e3, r3⟩ := one w3 bA
  refine (first_add (id := bC) (ps := [bA]) (st := 1) (hE3.trans e3) (hg3.ext e3) r3 (by simp) a3).mono fun _ w4 ⟨hE4, hg4⟩ => ?_
  refine does_of (run_buildSlice2 bB bC w4) ?_
  obtain ⟨e4, r4⟩ := two w4 bB bC
  refine (first_add (id := bD) (ps := [bB, bC]) (st := 2) (hE4.trans e4) (hg4.ext e4) r4 (by simp) a4).mono fun _ w5 ⟨hE5, hg5⟩ => ?_
  refine does_of (run_buildSlice2 bB bC w5) ?_
  obtain ⟨e5, r5⟩ := two w5 bB bC
  refine (first_add (id := bE) (ps := [bB, bC]) (st := 2) (hE5.trans e5) (hg5.ext e5) r5 (by simp) a5).mono fun _ w6 ⟨hE6, hg6⟩ => ?_
  refine does_of (run_buildSlice1 u_strs sz_str zero_str rfl rfl w6) ?_
  obtain ⟨e6, r6⟩ := one w6 bD
  refine (bases_spec (b := bE) (hg6.ext e6) r6 askD askE (by omega)).mono fun v w7 ⟨hE7, s, L, hv, ho, hL⟩ => ?_
  subst hv
  simp only [kn, if_true] at hL ⊢
  have hLe : L = [bB, bC] := hL.unique basesDE fun _ => Iff.rfl
  subst hLe
  have hE07 := (hE6.trans e6).trans hE7
  refine ext_2a (ext_2b (does_of (run_eqI w7) ?_))
  refine and_joinW (fun W => Ext w W) true hE07 (fun _ j hj => ?_) fun W hW => ⟨rfl, hW⟩
  refine does_of (run_buildSlice2 bB bC w7) ?_
  obtain ⟨e7, r7⟩ := two w7 bB bC
  refine (texts_spec (ho.row.ext e7) r7).mono fun u w8 ⟨hu, hE8⟩ => ?_
  subst hu
  simpa using hj w8 ((hE07.trans e7).trans hE8)
end Go.Proofs.Ytcncgkkilgmphaa
