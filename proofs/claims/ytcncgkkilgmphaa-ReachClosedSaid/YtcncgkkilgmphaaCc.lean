/-
  Contract: reach.Closure.
-/
import Derived.Test.YtcncgkkilgmphaaCb
import Derived.Test.YtcncgkkilgmphaaMp
import Derived.Test.YtcncgkkilgmphaaTy
set_option linter.unusedVariables false
set_option linter.unusedSimpArgs false
namespace Go.Proofs.Ytcncgkkilgmphaa
open Go Go.RowKit

theorem nodup_le2 : ∀ {l m : List ByteArray}, l.Nodup → (∀ x ∈ l, x ∈ m) → l.length ≤ m.length
  | [], _, _, _ => by simp
  | a :: l, m, hn, h => by
    have ha := h a (by simp)
    have h1 := nodup_le2 (l := l) (m := m.erase a) (List.nodup_cons.1 hn).2 fun x hx =>
      (List.mem_erase_of_ne (fun e : x = a => (List.nodup_cons.1 hn).1 (by rw [← e]; exact hx))).2 (h x (by simp [hx]))
    rw [List.length_erase_of_mem ha] at h1
    have : 0 < m.length := List.length_pos_of_mem ha
    simp only [List.length_cons]
    omega
theorem sort_nodup2 {l : List ByteArray} (h : l.Nodup) : Strict (sortS l) := by
  have h1 := sortS_sorted l
  have h2 : (sortS l).Nodup := (sortS_perm l).symm.nodup h
  unfold Sorted at h1
  unfold Strict
  have h3 : (sortS l).Pairwise fun a b => blt b a = false ∧ a ≠ b := List.pairwise_and_iff.2 ⟨h1, h2⟩
  exact h3.imp fun ⟨h4, h5⟩ => by
    cases h6 : blt _ _
    · exact absurd (blt_total h6 h4) h5
    · rfl
theorem within_spec {n : Nat} (h1 : 1 ≤ n) (h2 : n ≤ 2000) {w : World} : Call Try.prog 47 #[.int .i64 n] w fun v w' => v = .bool true ∧ w' = w := by
  apply vc47
  unfold V47
  refine does_ge ?_
  rw [show decide ((1 : Int) ≤ (n : Nat)) = true by simp; omega]
  refine join1 (fun t W => W = w ∧ t = .bool true) ?_ (fun j hj => ⟨fun _ => does_le ?_, fun h => absurd rfl h⟩)
  · rintro t W ⟨rfl, rfl⟩ _
    rw [pickP_true]
    exact ⟨rfl, rfl⟩
  · rw [show decide (((n : Nat) : Int) ≤ 2000) = true by simp; omega]
    exact hj _ _ ⟨rfl, rfl⟩
theorem Own.neM {W : World} {base b : Nat} {e : TypeId} {v : Value} {xs : List Value} {l : KV} (h : Own W base e v xs) (hm : MapAt W b l) : v.ownBlock = none ∨ v.ownBlock ≠ some b := by
  cases hv : v.ownBlock with
  | none => exact .inl rfl
  | some g =>
    refine .inr fun e' => ?_
    cases e'
    obtain ⟨cur, hc⟩ := h.block' b hv
    obtain ⟨es, c, h1, _⟩ := hm
    rw [hc] at h1
    cases h1
theorem Own.neM' {W : World} {base b : Nat} {e : TypeId} {v : Value} {xs : List Value} {l : KV} (h : Own W base e v xs) (hm : MapAt W b l) : some b ≠ v.ownBlock := fun e' => by
  rcases h.neM hm with h1 | h1
  · rw [h1] at e'; cases e'
  · exact h1 e'.symm
theorem Sep.grown {v u u' : Value} {n : Nat} (h : Sep v u) (hv : ∀ k, v.ownBlock = some k → k < n) (hu : u'.ownBlock = u.ownBlock ∨ u'.ownBlock = some n) : Sep v u' := by
  rcases hu with hu | hu
  · unfold Sep at *; rw [hu]; exact h
  · exact Sep.new (w := default) hv fun k hk => by rw [hu] at hk; cases hk; exact Nat.le_refl _
theorem Own.cut {w : World} {base : Nat} {e : TypeId} {xs : List Value} {a : Option Addr} {n c m : Nat} (h : Own w base e (.slice a n c) xs) (hm : m ≤ xs.length) : Own w base e (.slice a m c) (xs.take m) := by
  have hl : (xs.take m).length = m := by simp; omega
  rcases h.2 with ⟨hv, h0⟩ | ⟨g, cap, cur, hv, hb, hg, hn, hmm, hs, ht⟩
  · cases hv
    have : xs = [] := List.eq_nil_of_length_eq_zero h0
    subst this
    have : m = 0 := by simpa using hm
    subst this
    exact Own.nil _ _ _
  · cases hv
    refine ⟨by simp, .inr ⟨g, c, cur, by rw [hl], hb, hg, by omega, hmm, hs, ?_⟩⟩
    rw [Nat.mul_one] at ht ⊢
    rw [hl]
    conv => rhs; rw [← ht]
    rw [List.take_take, Nat.min_eq_left hm]
theorem Own.push3 {w0 W : World} {v x : Value} {xs ys : List ByteArray} {ty : TypeId} {k : Value → World → Prop} (ho : Own W w0.heap.size 9 v (strsV xs)) (hE : Ext w0 W) (hr : Row W x (strsV ys)) (hl : xs.length + ys.length ≤ 1099511627776)
    (hk : ∀ v' W', Own W' w0.heap.size 9 v' (strsV (xs ++ ys)) → Ext w0 W' → Mod v.ownBlock W W' → (v'.ownBlock = v.ownBlock ∨ v'.ownBlock = some W.heap.size) → k v' W') : Does Try.prog (Builtin.append_ #[23, 23] ty #[v, x]) W k :=
  ho.append u_strs info_str rfl hr (strsV_one _) (by simp; omega) (by omega) hE.size fun v' W' h1 h2 h3 => hk v' W' (by rw [strsV_append]; exact h1) (hE.grownOwn ho h2) h2 h3
/-! ### the walk's state -/
noncomputable def isO (ls : List (List UInt8)) (x : ByteArray) : Bool := (getO ls x).isSome
structure ClSt where
  tv : Value
  bv : Value
  kv : Value
  kvs : KV
  st : List ByteArray
/-- what was met and what is to do, in plain words -/
structure ClP (ls : List (List UInt8)) (a ks st : List ByteArray) : Prop where
  ca : ∀ x ∈ a, x ∈ ks ∨ x ∈ st
  cr : ∀ x ∈ ks, ∀ o, getO ls x = some o → ∀ y ∈ refsOf o, y ∈ ks ∨ y ∈ st
  sk : ∀ x ∈ ks, Rch ls a x
  ss : ∀ x ∈ st, Rch ls a x
  ln : st.length ≤ 1048576 * (ks.length + 1)
theorem mem_last {st : List ByteArray} {y : ByteArray} (h0 : 0 < st.length) (h : y ∈ st) : y ∈ st.take (st.length - 1) ∨ y = st[st.length - 1]'(by omega) := by
  have e : st = st.take (st.length - 1) ++ [st[st.length - 1]'(by omega)] := by
    rw [← List.take_succ_eq_append_getElem (by omega), show st.length - 1 + 1 = st.length by omega, List.take_length]
  rw [e] at h
  rcases List.mem_append.1 h with h | h
  · exact .inl h
  · exact .inr (List.mem_singleton.1 h)
section
variable {ls : List (List UInt8)} {a ks st : List ByteArray}
theorem ClP.old (h : ClP ls a ks st) (h0 : 0 < st.length) (hx : st[st.length - 1]'(by omega) ∈ ks) : ClP ls a ks (st.take (st.length - 1)) := by
  have hm : ∀ {y}, y ∈ ks ∨ y ∈ st → y ∈ ks ∨ y ∈ st.take (st.length - 1) := fun hy => by
    rcases hy with hy | hy
    · exact .inl hy
    · rcases mem_last h0 hy with hy | rfl
      · exact .inr hy
      · exact .inl hx
  refine ⟨fun x hx => hm (h.ca x hx), fun x hx o ho y hy => hm (h.cr x hx o ho y hy), h.sk, fun x hx => h.ss x (List.mem_of_mem_take hx), ?_⟩
  have := h.ln
  simp only [List.length_take]
  omega
theorem ClP.bad (h : ClP ls a ks st) (h0 : 0 < st.length) (hn : getO ls (st[st.length - 1]'(by omega)) = none) : ClP ls a (ks ++ [st[st.length - 1]'(by omega)]) (st.take (st.length - 1)) := by
  have hm : ∀ {y}, y ∈ ks ∨ y ∈ st → y ∈ ks ++ [st[st.length - 1]'(by omega)] ∨ y ∈ st.take (st.length - 1) := fun hy => by
    rcases hy with hy | hy
    · exact .inl (List.mem_append.2 (.inl hy))
    · rcases mem_last h0 hy with hy | rfl
      · exact .inr hy
      · exact .inl (by simp)
  refine ⟨fun x hx => hm (h.ca x hx), fun x hx o ho y hy => ?_, fun x hx => ?_, fun x hx => h.ss x (List.mem_of_mem_take hx), ?_⟩
  · rcases List.mem_append.1 hx with hx | hx
    · exact hm (h.cr x hx o ho y hy)
    · rw [List.mem_singleton.1 hx, hn] at ho; cases ho
  · rcases List.mem_append.1 hx with hx | hx
    · exact h.sk x hx
    · rw [List.mem_singleton.1 hx]; exact h.ss _ (List.getElem_mem _)
  · have := h.ln
    simp only [List.length_take, List.length_append, List.length_cons, List.length_nil]
    omega
theorem ClP.ok {o : Ob} (h : ClP ls a ks st) (h0 : 0 < st.length) (hn : getO ls (st[st.length - 1]'(by omega)) = some o) (hl : (refsOf o).length ≤ 1048576) : ClP ls a (ks ++ [st[st.length - 1]'(by omega)]) (st.take (st.length - 1) ++ refsOf o) := by
  have hm : ∀ {y}, y ∈ ks ∨ y ∈ st → y ∈ ks ++ [st[st.length - 1]'(by omega)] ∨ y ∈ st.take (st.length - 1) ++ refsOf o := fun hy => by
    rcases hy with hy | hy
    · exact .inl (List.mem_append.2 (.inl hy))
    · rcases mem_last h0 hy with hy | rfl
      · exact .inr (List.mem_append.2 (.inl hy))
      · exact .inl (by simp)
  have hx0 := h.ss _ (List.getElem_mem (show st.length - 1 < st.length by omega))
  refine ⟨fun x hx => hm (h.ca x hx), fun x hx o' ho y hy => ?_, fun x hx => ?_, fun x hx => ?_, ?_⟩
  · rcases List.mem_append.1 hx with hx | hx
    · exact hm (h.cr x hx o' ho y hy)
    · rw [List.mem_singleton.1 hx, hn] at ho
      cases ho
      exact .inr (List.mem_append.2 (.inr hy))
  · rcases List.mem_append.1 hx with hx | hx
    · exact h.sk x hx
    · rw [List.mem_singleton.1 hx]; exact hx0
  · rcases List.mem_append.1 hx with hx | hx
    · exact h.ss x (List.mem_of_mem_take hx)
    · exact Rch.step hx0 hn hx
  · have := h.ln
    simp only [List.length_take, List.length_append, List.length_cons, List.length_nil]
    omega
/-- nothing to do: all that can be reached was met -/
theorem ClP.all (h : ClP ls a ks []) (x : ByteArray) : x ∈ ks ↔ Rch ls a x := by
  refine ⟨h.sk x, fun hx => ?_⟩
  induction hx with
  | start hx => exact (h.ca _ hx).resolve_right (by simp)
  | step _ ho hy ih => exact (h.cr _ ih _ ho _ hy).resolve_right (by simp)
end
end Go.Proofs.Ytcncgkkilgmphaa
