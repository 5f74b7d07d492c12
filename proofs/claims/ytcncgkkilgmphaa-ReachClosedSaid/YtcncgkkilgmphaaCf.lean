/-
  Contract: marlaw12.first.
-/
import Derived.Test.YtcncgkkilgmphaaCe
set_option linter.unusedVariables false
set_option linter.unusedSimpArgs false
namespace Go.Proofs.Ytcncgkkilgmphaa
open Go Go.RowKit

def tO : Ob := { ob0 with kind := 2 }
def cO : Ob := { ob0 with kind := 3, tree := idOf (enc tO) }
theorem may_tO : May tO := .inr (.inl ⟨rfl, rfl, ⟨by simp [tO, ob0], List.Pairwise.nil, by simp [tO, ob0]⟩, ⟨rfl, rfl, rfl, rfl, rfl⟩⟩)
theorem msg_noS : MsgOk noS := ⟨by simp [noS, bs], by simp [noS, bs]⟩
theorem may_cO : May cO := .inr (.inr ⟨rfl, rfl, rfl, valid_hex (sumL_length _), ⟨by simp [cO, ob0], List.Pairwise.nil, by simp [cO, ob0]⟩, by simp [cO, ob0], by simp [cO, ob0], by simp [cO, ob0], by simp [cO, ob0], msg_noS⟩)
theorem ids_beq : (idOf (enc tO) == idOf (enc cO)) = false := by kernel_rfl
theorem ids_ne : idOf (enc tO) ≠ idOf (enc cO) := fun e => by
  have := ids_beq
  rw [e] at this
  simp at this
theorem get_tO : getO [enc tO, enc cO] (idOf (enc tO)) = some tO := by
  unfold getO srcF
  rw [List.find?_cons_of_pos (by simp)]
  exact decO_of may_tO
theorem get_cO : getO [enc tO, enc cO] (idOf (enc cO)) = some cO := by
  unfold getO srcF
  rw [List.find?_cons_of_neg (by simpa using ids_ne), List.find?_cons_of_pos (by simp)]
  exact decO_of may_cO
theorem rch_first {x : ByteArray} (h : Rch [enc tO, enc cO] [idOf (enc cO)] x) : x = idOf (enc cO) ∨ x = idOf (enc tO) := by
  induction h with
  | start hx => exact .inl (List.mem_singleton.1 hx)
  | step _ ho hy ih =>
    rcases ih with rfl | rfl
    · rw [get_cO] at ho
      cases ho
      right
      simpa [refsOf, cO, ob0] using hy
    · rw [get_tO] at ho
      cases ho
      simp [refsOf, tO, ob0] at hy
theorem short_of {s : ByteArray} (h : Valid s) : Short s := by
  obtain ⟨l, h1, h2⟩ := h
  have := unhex_len _ _ h1
  unfold Short
  omega
theorem len_tO : (enc tO).length = 2 := by kernel_rfl
theorem len_cO : (enc cO).length = 37 := by kernel_rfl
theorem run_commit (s : ByteArray) (w : World) : (Instr.build 72 #[(0, .int .i64 3), (3, .string s)]).run Try.prog w = .ok (ObV (.slice none 0 0) (.slice none 0 0) (.slice none 0 0) { ob0 with kind := 3, tree := s }) w := by
  simp [go_sem, Instr.build, ObV, ObC, ob0, noS]
theorem run_rows2 {a1 a2 : Option Addr} {n1 c1 n2 c2 : Nat} (w : World) : (Instr.buildSlice 22 2 #[(0, .slice a1 n1 c1), (1, .slice a2 n2 c2)]).run Try.prog w = .ok (.slice (some ⟨w.heap.size, 0, none⟩) 2 2) (w.alloc (.cells #[.slice a1 n1 c1, .slice a2 n2 c2] 34)) := by
  simp [go_sem, Instr.buildSlice]
theorem rows2 {w : World} {v1 v2 : Value} {l1 l2 : List UInt8} (h1 : Row w v1 (bytesV l1)) (h2 : Row w v2 (bytesV l2)) : RowsB (w.alloc (.cells #[v1, v2] 34)) (.slice (some ⟨w.heap.size, 0, none⟩) 2 2) [l1, l2] := by
  have e := ext_any (.cells #[v1, v2] 34) w
  have hk : Kp w.heap.size #[v1, v2] 34 (w.alloc (.cells #[v1, v2] 34)) := heap_alloc_new w _
  refine ⟨[v1, v2], ⟨_, _, rfl, ⟨by simp [maxLen], by simp⟩, fun j x hj => ⟨_, rfl, ?_⟩⟩, rfl, fun i h h' => ?_⟩
  · have ha : (⟨w.heap.size, 0, none⟩ : Addr).add j = ⟨w.heap.size, j, none⟩ := by unfold Addr.add; split <;> simp_all
    rw [ha]
    exact hk.cell (by simpa using hj)
  · match i, h, h' with
    | 0, _, _ => exact h1.ext e
    | 1, _, _ => exact h2.ext e
theorem first_spec {w : World} : Call Try.prog 6 #[] w fun v w' => v = .bool true ∧ Ext w w' := by
  refine vc6 (_u := ()) ?_
  unfold V6
  refine does_of (run_kind_o 2 w) ?_
  refine (encode_spec (o := tO) ⟨(isOb0 w).data, (isOb0 w).items, (isOb0 w).pars⟩ ⟨by simp [tO, ob0], by simp [tO, ob0], by simp [tO, ob0], by simp [tO, ob0, noS, Short, bs], by simp [tO, ob0], by simp [tO, ob0, noS, Short, bs]⟩).mono fun r w1 ⟨hE1, hr⟩ => ?_
  obtain ⟨tv, rfl, ht⟩ : ∃ s, r = .tuple #[s, .int .i64 0] ∧ OwnB w w1 s (enc tO) := by
    rcases hr with ⟨_, h⟩ | ⟨h, _⟩
    · exact h
    · exact absurd may_tO h
  refine ex2a (ex2b ?_)
  refine (id_spec ht.row (by rw [len_tO]; omega)).mono fun r w2 ⟨hr, hE2⟩ => ?_
  subst hr
  refine does_of (run_commit _ w2) ?_
  refine (encode_spec (o := cO) ⟨(isOb0 w2).data, (isOb0 w2).items, (isOb0 w2).pars⟩ ⟨by simp [cO, ob0], by simp [cO, ob0], by simp [cO, ob0], short_of (valid_hex (sumL_length _)), by simp [cO, ob0], by simp [cO, ob0, noS, Short, bs]⟩).mono fun r w3 ⟨hE3, hr⟩ => ?_
  obtain ⟨cv, rfl, hc⟩ : ∃ s, r = .tuple #[s, .int .i64 0] ∧ OwnB w2 w3 s (enc cO) := by
    rcases hr with ⟨_, h⟩ | ⟨h, _⟩
    · exact h
    · exact absurd may_cO h
  refine ex2a (ex2b ?_)
  have ht3 := (ht.row.ext hE2).ext hE3
  have hc3 := hc.row
  have hrows := rows2 ht3 hc3
  have e4 := ext_any (.cells #[tv, cv] 34) w3
  obtain ⟨ta, tc, htv⟩ := ht3.slice
  obtain ⟨ca, cc, hcv⟩ := hc3.slice
  refine does_of (by rw [htv, hcv]; exact run_rows2 w3) ?_
  rw [← htv, ← hcv]
  generalize w3.alloc (.cells #[tv, cv] 34) = w4 at hrows e4 ⊢
  have hcl : (enc cO).length ≤ 1048576 := by rw [len_cO]; omega
  have hll : ∀ l ∈ [enc tO, enc cO], l.length ≤ 1048576 := fun l hl => by
    simp only [List.mem_cons, List.not_mem_nil, or_false] at hl
    rcases hl with rfl | rfl
    · rw [len_tO]; omega
    · exact hcl
  refine (source_spec (lie := false) hrows hll (by simp)).mono fun fv w5 ⟨hE5, lb, eb, ib, sv, hs⟩ => ?_
  refine (id_spec ((hc3.ext e4).ext hE5) hcl).mono fun r w6 ⟨hr, hE6⟩ => ?_
  subst hr
  have e7 := ext_any (.cells #[.string (idOf (enc cO))] 9) w6
  have o7 := own_one_str (idOf (enc cO)) w6
  refine does_of (run_one_str _ w6) ?_
  generalize w6.alloc (.cells #[.string (idOf (enc cO))] 9) = w7 at e7 o7 ⊢
  refine (closure_spec (most := 10) (U := [idOf (enc cO), idOf (enc tO)]) ((hs.ext hE6).ext e7) hll o7.row (by simp) (by omega) (by omega) (fun x hx => by simpa using rch_first hx) (by simp)).mono fun r w8 ⟨hE8, mv, nv, met, mis, hr, h1, h2, h3, h4, h5, h6⟩ => ?_
  subst hr
  have hE : Ext w w8 := hE1.trans (hE2.trans (hE3.trans (e4.trans (hE5.trans (hE6.trans (e7.trans hE8))))))
  have hmis : mis = [] := by
    cases mis with
    | nil => rfl
    | cons x l =>
      obtain ⟨g1, g2⟩ := (h6 x).1 (by simp)
      rcases rch_first g1 with rfl | rfl
      · simp [isO, get_cO] at g2
      · simp [isO, get_tO] at g2
  have hrc : Rch [enc tO, enc cO] [idOf (enc cO)] (idOf (enc cO)) := Rch.start (by simp)
  have hmet : met.length = 2 := by
    have hle : met.length ≤ 2 := nodup_le2 (m := [idOf (enc cO), idOf (enc tO)]) h3.nodup fun x hx => by simpa using rch_first ((h5 x).1 hx).1
    have hge : 2 ≤ met.length := nodup_le2 (l := [idOf (enc cO), idOf (enc tO)]) (by simp; exact Ne.symm ids_ne) fun x hx => by
      rw [h5]
      simp only [List.mem_cons, List.not_mem_nil, or_false] at hx
      rcases hx with rfl | rfl
      · exact ⟨hrc, by simp [isO, get_cO]⟩
      · exact ⟨Rch.step hrc get_cO (by simp [refsOf, cO, ob0]), by simp [isO, get_tO]⟩
    omega
  subst hmis
  refine ex3a (ex3b (ex3c (does_of (run_eqI w8) ?_)))
  refine and_join (b1 := true) true (fun _ j hj => h1.len u_strs (does_of (run_eqI w8) ?_)) ?_
  · rw [show decide ((((strsV met).length : Nat) : Int) = 2) = true by simp [hmet]]
    exact hj
  refine and_join (b1 := true) true (fun _ j hj => h2.len u_strs (does_of (run_eqI w8) hj)) ⟨rfl, hE⟩
end Go.Proofs.Ytcncgkkilgmphaa
