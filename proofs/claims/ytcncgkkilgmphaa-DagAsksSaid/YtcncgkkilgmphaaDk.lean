/-
  Contract: the graph's order.
-/
import Derived.Test.YtcncgkkilgmphaaDj
import Derived.Test.YtcncgkkilgmphaaSs
set_option linter.unusedVariables false
set_option linter.unusedSimpArgs false
namespace Go.Proofs.Ytcncgkkilgmphaa
open Go Go.RowKit

def stOf (G : List Cm) (k : ByteArray) : Int := (cmOf G k).elim 0 (·.st)
def later (G : List Cm) (a b : ByteArray) : Bool := decide (stOf G b < stOf G a)
theorem later_wo (G : List Cm) : WO (later G) := wo_desc (stOf G)
def Stamps (G : List Cm) : Prop := ∀ c ∈ G, 0 ≤ c.st ∧ c.st ≤ 9223372036854775807
theorem stOf_bounds {G : List Cm} (h : Stamps G) (k : ByteArray) : 0 ≤ stOf G k ∧ stOf G k ≤ 9223372036854775807 := by
  unfold stOf
  cases hc : cmOf G k with
  | none => simp
  | some c => exact h c (cmOf_mem hc).1
theorem q_step {C : World → Prop} {s : Sem Value} {v : Value} {w : World} {k : Value → World → Prop} (h : ∀ W, C W → s.run Try.prog W = .ok v W) (hk : k v w) : Quiet Try.prog C s w k := ⟨v, h, hk⟩
theorem order1_spec {w : World} {T : Nat → Prop} {gv : Value} {G : List Cm} {a b : ByteArray} {cb : Nat} (h : PG w T gv G) (hS : Stamps G) (hc : w.cell? ⟨cb, 0, none⟩ = some gv) :
    Call Try.prog 64 #[.string a, .string b, .pointer (some ⟨cb, 0, none⟩)] w fun v w' => v = .int .i64 (stOf G b - stOf G a) ∧ Ext w w' := by
  apply vc64
  unfold V64
  refine q64_1 (Ext w) (Ext.drawn w) fun _ => ?_
  obtain ⟨gb, mb, l, rfl, h2, h3, h4, h5, h6⟩ := h
  have hload : ∀ W, Ext w W → (Instr.loadAt 45 (.pointer (some ⟨cb, 0, none⟩))).run Try.prog W = .ok (.pointer (some ⟨gb, 0, none⟩)) W := fun W hW => by
    simp [go_sem, Instr.loadAt, hW.cell hc]
  have hlk : ∀ k, ∃ s, (∃ p n q, s = .slice p n q) ∧ ∀ W, Ext w W → (Instr.lookup 90 (.map (some mb)) (.string k) false).run Try.prog W = .ok (.agg #[s, .int .i64 (stOf G k)]) W := by
    intro k
    rcases h6.lk k with ⟨g1, g2⟩ | ⟨c, v, g1, g2, g3, s, g4, g5⟩
    · refine ⟨.slice none 0 0, ⟨_, _, _, rfl⟩, fun W hW => ?_⟩
      have e1 := (h5.ext hW).lookup u_nodes u_str (zero_node W) k
      rw [g1] at e1
      unfold stOf
      rw [g2]
      exact e1
    · simp only at g4
      obtain ⟨p, q, hs, _⟩ := g5.1
      refine ⟨s, ⟨_, _, _, hs⟩, fun W hW => ?_⟩
      have e1 := (h5.ext hW).lookup u_nodes u_str (zero_node W) k
      rw [g1, g4] at e1
      unfold stOf
      rw [g2]
      exact e1
  obtain ⟨s1, hs1, hl1⟩ := hlk a
  obtain ⟨s2, hs2, hl2⟩ := hlk b
  have b1 := stOf_bounds hS a
  have b2 := stOf_bounds hS b
  refine q_step hload ?_
  rw [nilP_some]
  refine q_run (run_fieldG gb) (q_step (fun W hW => run_loadG (Ext.cell hW h4)) (q_step hl2 (q_run (run_node1 s2 hs2 _) (q_step hload ?_))))
  rw [nilP_some]
  refine q_run (run_fieldG gb) (q_step (fun W hW => run_loadG (Ext.cell hW h4)) (q_step hl1 (q_run (run_node1 s1 hs1 _) (q_run (fun W => run_sub (by omega) (by omega) W) ?_))))
  intro W hW _
  exact ⟨rfl, hW⟩
theorem order_spec {w : World} {T : Nat → Prop} {gv iv : Value} {G : List Cm} {ids : List ByteArray} {K : Nat} (h : PG w T gv G) (hr : Row w iv (strsV ids)) (hA : AskOk G ids K) (hS : Stamps G) :
    Call Try.prog 38 #[gv, iv] w fun v w' => Ext w w' ∧ ∃ s L, v = .tuple #[s, .int .i64 (if known G ids then 0 else 7)] ∧ Own w' w.heap.size 9 s (strsV L) ∧
      if known G ids then ∃ L0, SetOf (Anc G ids) L0 ∧ Asc (later G) L ∧ Stab (later G) L0 L else L = [] := by
  apply vc38
  unfold V38
  obtain ⟨gb0, hgv⟩ : ∃ gb0, gv = .pointer (some ⟨gb0, 0, none⟩) := by obtain ⟨gb, mb, l, h1, _⟩ := h; exact ⟨gb, h1⟩
  have hbox : (Instr.box 45 gv).run Try.prog w = .ok (.pointer (some ⟨w.heap.size, 0, none⟩)) (w.alloc (.cells #[gv] 45)) := by
    subst hgv
    simp [go_sem, Instr.box]
  refine does_of hbox ?_
  generalize hw1 : w.alloc (.cells #[gv] 45) = w1
  have hE1 : Ext w w1 := by rw [← hw1]; exact (Ext.refl w).alloc _
  have hcell : w1.cell? ⟨w.heap.size, 0, none⟩ = some gv := by rw [← hw1]; simp [go_sem]
  have hsz1 : w1.heap.size = w.heap.size + 1 := by rw [← hw1]; simp
  have hload : (Instr.loadAt 45 (.pointer (some ⟨w.heap.size, 0, none⟩))).run Try.prog w1 = .ok gv w1 := by simp [go_sem, Instr.loadAt, hcell]
  refine does_of hload ?_
  refine (ancestors_spec (h.ext hE1) (hr.ext hE1) hA).mono fun v w2 ⟨hE2, s, L, hv, ho, hL⟩ => ?_
  subst hv
  refine ext_2a (ext_2b ?_)
  have hg := hA.g
  have hLl : L.length ≤ 1099511627776 := by
    by_cases hk : known G ids = true
    · rw [if_pos hk] at hL
      have := nodup_le hL.1.nodup (m := idsOf G) fun k hx => ((hL.2 k).1 hx).known hA.fits.closed hk
      have h2 : (idsOf G).length = G.length := by simp [idsOf]
      omega
    · rw [if_neg hk] at hL
      rw [hL]; simp
  have hcmp : CmpOk w2 s.ownBlock (.func (.func 64) #[] #[.pointer (some ⟨w.heap.size, 0, none⟩)]) (later G) := by
    intro W hM a b
    have hT : PG w2 (fun k => k < w1.heap.size) gv G := ((h.ext hE1).mono (U := fun k => k < w1.heap.size) fun k hk _ => hk).ext hE2
    have hU : ModIn (fun k => w1.heap.size ≤ k) w2 W := ModIn.ofModO hM fun b hb => ho.ge b hb
    have hPG : PG W (fun k => k < w1.heap.size) gv G := hT.mod hU fun k h1 h2 => by omega
    have hc3 : W.cell? ⟨w.heap.size, 0, none⟩ = some gv := hU.cell (by simp; omega) (hE2.cell hcell)
    refine ⟨stOf G b - stOf G a, ?_, fun hk => ⟨_, _, _, rfl, .int .i64 (stOf G b - stOf G a), fun W' hW' => ?_, hk⟩⟩
    · unfold later
      rw [Bool.eq_iff_iff, decide_eq_true_eq, decide_eq_true_eq]
      omega
    · exact (order1_spec (hPG.ext hW') hS (Ext.cell hW' hc3)).mono fun v W'' ⟨h1, h2⟩ => ⟨h1, Ext.trans hW' h2⟩
  refine (sortStable_spec (later_wo G) ho hLl hcmp).mono fun v w3 ⟨z, h1, h2, h3, h4⟩ => ?_
  refine ⟨Mod.ext (hE1.trans hE2) h2 (fun k hk => by have := ho.ge k hk; omega), s, z, rfl, h1.mono (by omega), ?_⟩
  by_cases hk : known G ids = true
  · rw [if_pos hk] at hL ⊢
    exact ⟨L, hL, h3, h4⟩
  · rw [if_neg hk] at hL ⊢
    subst hL
    exact List.perm_nil.1 h4.1.symm
end Go.Proofs.Ytcncgkkilgmphaa
