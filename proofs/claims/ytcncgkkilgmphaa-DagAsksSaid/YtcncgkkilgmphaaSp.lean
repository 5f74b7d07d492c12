/-
  Plain laws of stable sorting by a weak order.
-/
import Derived.Test.YtcncgkkilgmphaaPl
set_option linter.unusedVariables false
set_option linter.unusedSimpArgs false
namespace Go.Proofs.Ytcncgkkilgmphaa
open Go

structure WO (lt : ByteArray → ByteArray → Bool) : Prop where
  asymm : ∀ {a b}, lt a b = true → lt b a = false
  ntrans : ∀ {a b c}, lt a b = false → lt b c = false → lt a c = false
section
variable {lt : ByteArray → ByteArray → Bool}
theorem WO.lt_of_lt {O : WO lt} {a b c : ByteArray} (h : lt a b = true) (k : lt c b = false) : lt a c = true := by
  cases hh : lt a c
  · have := O.ntrans hh k; rw [h] at this; cases this
  · rfl
theorem WO.lt_of_le {O : WO lt} {a b c : ByteArray} (h : lt b a = false) (k : lt b c = true) : lt a c = true := by
  cases hh : lt a c
  · have := O.ntrans h hh; rw [k] at this; cases this
  · rfl
/-- in order -/
def Asc (lt : ByteArray → ByteArray → Bool) (l : List ByteArray) : Prop := l.Pairwise fun a b => lt b a = false
def eqv (lt : ByteArray → ByteArray → Bool) (a b : ByteArray) : Bool := !lt a b && !lt b a
theorem eqv_iff {a b : ByteArray} : eqv lt a b = true ↔ lt a b = false ∧ lt b a = false := by simp [eqv]
/-- the same elements, those alike in the same order -/
def Stab (lt : ByteArray → ByteArray → Bool) (a b : List ByteArray) : Prop := a.Perm b ∧ ∀ x, a.filter (eqv lt x) = b.filter (eqv lt x)
theorem Stab.refl (a : List ByteArray) : Stab lt a a := ⟨List.Perm.refl _, fun _ => rfl⟩
theorem Stab.trans {a b c : List ByteArray} (h : Stab lt a b) (k : Stab lt b c) : Stab lt a c := ⟨h.1.trans k.1, fun x => (h.2 x).trans (k.2 x)⟩
theorem Stab.symm {a b : List ByteArray} (h : Stab lt a b) : Stab lt b a := ⟨h.1.symm, fun x => (h.2 x).symm⟩
theorem Stab.append {a b c d : List ByteArray} (h : Stab lt a b) (k : Stab lt c d) : Stab lt (a ++ c) (b ++ d) := ⟨h.1.append k.1, fun x => by rw [List.filter_append, List.filter_append, h.2 x, k.2 x]⟩
theorem Stab.swap {O : WO lt} {u v : List ByteArray} (h : ∀ x ∈ u, ∀ y ∈ v, eqv lt x y = false) : Stab lt (u ++ v) (v ++ u) := by
  refine ⟨List.perm_append_comm, fun z => ?_⟩
  rw [List.filter_append, List.filter_append]
  by_cases hu : u.filter (eqv lt z) = []
  · simp [hu]
  · have hv : v.filter (eqv lt z) = [] := by
      rw [List.filter_eq_nil_iff]
      intro y hy hz
      obtain ⟨x, hx⟩ := List.exists_mem_of_ne_nil _ hu
      obtain ⟨hx1, hx2⟩ := List.mem_filter.1 hx
      have := h x hx1 y hy
      obtain ⟨a1, a2⟩ := eqv_iff.1 hx2
      obtain ⟨b1, b2⟩ := eqv_iff.1 hz
      have e : eqv lt x y = true := eqv_iff.2 ⟨O.ntrans a2 b1, O.ntrans b2 a1⟩
      rw [e] at this
      cases this
    simp [hv]
theorem WO.irrefl {O : WO lt} (a : ByteArray) : lt a a = false := by
  cases h : lt a a
  · rfl
  · have := O.asymm h; rw [h] at this; exact this
theorem eqv_refl {O : WO lt} (a : ByteArray) : eqv lt a a = true := eqv_iff.2 ⟨O.irrefl a, O.irrefl a⟩
theorem asc_unique {O : WO lt} : ∀ {a b : List ByteArray}, Asc lt a → Asc lt b → Stab lt a b → a = b
  | [], b, _, _, h => (List.perm_nil.1 h.1.symm).symm
  | x :: a, [], _, _, h => by have := h.1.length_eq; simp at this
  | x :: a, y :: b, ha, hb, h => by
    obtain ⟨a1, a2⟩ := List.pairwise_cons.1 ha
    obtain ⟨b1, b2⟩ := List.pairwise_cons.1 hb
    have hx : x ∈ y :: b := h.1.mem_iff.1 (by simp)
    have hy : y ∈ x :: a := h.1.mem_iff.2 (by simp)
    have h1 : lt x y = false := by
      rcases List.mem_cons.1 hx with e | hx
      · rw [e]; exact O.irrefl y
      · exact b1 x hx
    have h2 : lt y x = false := by
      rcases List.mem_cons.1 hy with e | hy
      · rw [e]; exact O.irrefl x
      · exact a1 y hy
    have e1 : eqv lt x y = true := eqv_iff.2 ⟨h1, h2⟩
    have hf := h.2 x
    rw [List.filter_cons_of_pos (eqv_refl (O := O) x), List.filter_cons_of_pos e1] at hf
    have hxy : x = y := (List.cons.inj hf).1
    subst hxy
    rw [asc_unique (O := O) a2 b2 ⟨(List.perm_cons x).1 h.1, fun z => ?_⟩]
    have hz := h.2 z
    rw [List.filter_cons, List.filter_cons] at hz
    split at hz
    · exact (List.cons.inj hz).2
    · exact hz
theorem asc_append {a b : List ByteArray} : Asc lt (a ++ b) ↔ Asc lt a ∧ Asc lt b ∧ ∀ x ∈ a, ∀ y ∈ b, lt y x = false := List.pairwise_append
theorem stab_ins {O : WO lt} {x : ByteArray} {z1 z2 : List ByteArray} (h : ∀ y ∈ z2, lt x y = true) : Stab lt (z1 ++ z2 ++ [x]) (z1 ++ x :: z2) := by
  rw [List.append_assoc]
  refine (Stab.refl z1).append ?_
  refine Stab.swap (O := O) (u := z2) (v := [x]) fun y hy u hu => ?_
  rw [List.mem_singleton.1 hu]
  simp [eqv, h y hy]
theorem asc_ins {O : WO lt} {x : ByteArray} {z1 z2 : List ByteArray} (ha : Asc lt (z1 ++ z2)) (h2 : ∀ y ∈ z2, lt x y = true) (h1 : ∀ y ∈ z1, lt x y = false) : Asc lt (z1 ++ x :: z2) := by
  obtain ⟨a1, a2, a3⟩ := asc_append.1 ha
  refine asc_append.2 ⟨a1, List.pairwise_cons.2 ⟨fun y hy => O.asymm (h2 y hy), a2⟩, fun y hy u hu => ?_⟩
  rcases List.mem_cons.1 hu with e | hu
  · rw [e]; exact h1 y hy
  · exact a3 y hy u hu
theorem stab_front {O : WO lt} {x : ByteArray} {v1 v2 : List ByteArray} (h : ∀ y ∈ v1, lt y x = true) : Stab lt (x :: (v1 ++ v2)) (v1 ++ x :: v2) := by
  have : Stab lt ([x] ++ v1 ++ v2) (v1 ++ [x] ++ v2) := by
    refine Stab.append (Stab.swap (O := O) fun a ha y hy => ?_) (Stab.refl _)
    rw [List.mem_singleton.1 ha]
    simp [eqv, h y hy]
  simpa using this
theorem asc_front {O : WO lt} {x : ByteArray} {v1 v2 : List ByteArray} (ha : Asc lt (v1 ++ v2)) (h1 : ∀ y ∈ v1, lt y x = true) (h2 : ∀ y ∈ v2, lt y x = false) : Asc lt (v1 ++ x :: v2) := by
  obtain ⟨a1, a2, a3⟩ := asc_append.1 ha
  refine asc_append.2 ⟨a1, List.pairwise_cons.2 ⟨h2, a2⟩, fun y hy u hu => ?_⟩
  rcases List.mem_cons.1 hu with e | hu
  · rw [e]; exact O.asymm (h1 y hy)
  · exact a3 y hy u hu
theorem merge_split {O : WO lt} {u1 u2 v1 v2 z1 z2 : List ByteArray} (hu : Asc lt (u1 ++ u2)) (hv : Asc lt (v1 ++ v2)) (h1 : ∀ x ∈ v1, ∀ y ∈ u2, lt x y = true) (h2 : ∀ x ∈ u1, ∀ y ∈ v2, lt y x = false)
    (s1 : Stab lt (u1 ++ v1) z1) (c1 : Asc lt z1) (s2 : Stab lt (u2 ++ v2) z2) (c2 : Asc lt z2) : Asc lt (z1 ++ z2) ∧ Stab lt (u1 ++ u2 ++ (v1 ++ v2)) (z1 ++ z2) := by
  obtain ⟨_, _, a3⟩ := asc_append.1 hu
  obtain ⟨_, _, b3⟩ := asc_append.1 hv
  constructor
  · refine asc_append.2 ⟨c1, c2, fun x hx y hy => ?_⟩
    rcases List.mem_append.1 (s1.1.mem_iff.2 hx) with hx | hx <;> rcases List.mem_append.1 (s2.1.mem_iff.2 hy) with hy | hy
    · exact a3 x hx y hy
    · exact h2 x hx y hy
    · exact O.asymm (h1 x hx y hy)
    · exact b3 x hx y hy
  · refine Stab.trans ?_ (s1.append s2)
    have : Stab lt (u1 ++ (u2 ++ v1) ++ v2) (u1 ++ (v1 ++ u2) ++ v2) := ((Stab.refl u1).append (Stab.swap (O := O) fun x hx y hy => by
      have := h1 y hy x hx
      simp [eqv, this])).append (Stab.refl v2)
    simpa using this
/-- an order by a number, the greater first -/
theorem wo_desc (f : ByteArray → Int) : WO fun a b => decide (f b < f a) where
  asymm h := by simp at h ⊢; omega
  ntrans h k := by simp at h k ⊢; omega
/-- elements ahead of one that is ahead -/
theorem asc_le {l : List ByteArray} (h : Asc lt l) {i j : Nat} (hij : i ≤ j) (hj : j < l.length) {O : WO lt} : lt l[j] (l[i]'(by omega)) = false := by
  rcases Nat.lt_or_eq_of_le hij with hh | rfl
  · exact List.pairwise_iff_getElem.1 h i j (by omega) hj hh
  · exact O.irrefl _
end
theorem set_mid {α : Type} (A : List α) (x y : α) (C : List α) : (A ++ x :: C).set A.length y = A ++ y :: C := by
  induction A with
  | nil => rfl
  | cons a A ih => simp [ih]
theorem get_mid {α : Type} (A : List α) (x : α) (C : List α) : (A ++ x :: C)[A.length]? = some x := by simp
end Go.Proofs.Ytcncgkkilgmphaa
