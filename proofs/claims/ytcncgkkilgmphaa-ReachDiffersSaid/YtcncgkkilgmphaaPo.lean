/-
  Plain law: objects, their bytes, reading them back.
-/
import Derived.Test.YtcncgkkilgmphaaPl
import Derived.Test.YtcncgkkilgmphaaBg
set_option linter.unusedVariables false
set_option linter.unusedSimpArgs false
namespace Go.Proofs.Ytcncgkkilgmphaa
open Go

structure It where
  mode : Int
  name : ByteArray
  id : ByteArray
structure Ob where
  kind : Int
  data : List UInt8
  items : List It
  tree : ByteArray
  parents : List ByteArray
  stamp : Int
  author : Int
  msg : ByteArray
def noS : ByteArray := { data := #[] }
def ob0 : Ob := ⟨0, [], [], noS, [], 0, 0, noS⟩
def NoCommit (o : Ob) : Prop := o.tree = noS ∧ o.parents.length = 0 ∧ o.stamp = 0 ∧ o.author = 0 ∧ o.msg = noS
def ItemOk (x : It) : Prop := (1 ≤ x.mode ∧ x.mode ≤ 4) ∧ NameOk x.name ∧ Valid x.id
def ItemsOk (l : List It) : Prop := (∀ x ∈ l, ItemOk x) ∧ Strict (l.map (·.name)) ∧ l.length ≤ 256
def ParentsOk (l : List ByteArray) : Prop := (∀ x ∈ l, Valid x) ∧ Strict l ∧ l.length ≤ 2
def May (o : Ob) : Prop :=
  (o.kind = 1 ∧ o.data.length ≤ 20000 ∧ o.items.length = 0 ∧ NoCommit o) ∨ (o.kind = 2 ∧ o.data.length = 0 ∧ ItemsOk o.items ∧ NoCommit o) ∨
  (o.kind = 3 ∧ o.data.length = 0 ∧ o.items.length = 0 ∧ Valid o.tree ∧ ParentsOk o.parents ∧ 0 ≤ o.stamp ∧ o.stamp ≤ 1099511627776 ∧ 0 ≤ o.author ∧ o.author ≤ 255 ∧ MsgOk o.msg)
def encI (x : It) : List UInt8 := b8 x.mode :: (putL (bs x.name).length ++ bs x.name ++ rawL x.id)
def encT (o : Ob) : List UInt8 :=
  if o.kind = 1 then o.data else if o.kind = 2 then putL o.items.length ++ o.items.flatMap encI
  else rawL o.tree ++ [b8 o.parents.length] ++ o.parents.flatMap rawL ++ putL o.stamp.toNat ++ putL o.author.toNat ++ putL (bs o.msg).length ++ bs o.msg
def enc (o : Ob) : List UInt8 := b8 o.kind :: encT o
def refsOf (o : Ob) : List ByteArray := if o.kind = 2 then o.items.map (·.id) else if o.kind = 3 then o.tree :: o.parents else []

/-! ### reading -/
abbrev Src := List UInt8 × Bool
def takeP (s : Src) (n : Nat) : List UInt8 × Src := if s.2 = true ∨ s.1.length < n then ([], (s.1, true)) else (s.1.take n, (s.1.drop n, s.2))
def oneP (s : Src) : Nat × Src := (((takeP s 1).1.headD 0).toNat, (takeP s 1).2)
def hashP (s : Src) : ByteArray × Src := (hexS (takeP s 32).1, (takeP s 32).2)
def numP (s : Src) : Nat × Src := if (getR s.1).2.2 = 0 then ((getR s.1).1, (takeP s (getR s.1).2.1).2) else (0, (s.1, true))
def rnumP (s : Src) : Nat × Src := if s.2 = true ∨ (getR s.1).2.2 ≠ 0 then (0, (s.1, true)) else ((getR s.1).1, (s.1.drop (getR s.1).2.1, s.2))
section
variable (num : Src → Nat × Src)
def itemP (s : Src) : It × Src :=
  (⟨((oneP s).1 : Nat), mkS (takeP (num (oneP s).2).2 (num (oneP s).2).1).1, (hashP (takeP (num (oneP s).2).2 (num (oneP s).2).1).2).1⟩, (hashP (takeP (num (oneP s).2).2 (num (oneP s).2).1).2).2)
def itemsP : Nat → Src → List It → List It × Src
  | 0, s, acc => (acc, s)
  | k + 1, s, acc => if s.2 = true then (acc, s) else itemsP k (itemP num s).2 (acc ++ [(itemP num s).1])
def hashesP : Nat → Src → List ByteArray → List ByteArray × Src
  | 0, s, acc => (acc, s)
  | k + 1, s, acc => if s.2 = true then (acc, s) else hashesP k (hashP s).2 (acc ++ [(hashP s).1])
/-- what a commit's bytes are, behind tree and parents -/
structure Tail where
  stamp : Nat
  author : Nat
  msg : List UInt8
  s : Src
def tailP (s : Src) : Tail :=
  ⟨(num s).1, (num (num s).2).1, (takeP (num (num (num s).2).2).2 (num (num (num s).2).2).1).1, (takeP (num (num (num s).2).2).2 (num (num (num s).2).2).1).2⟩
def parseC (s : Src) : Ob × Bool :=
  let ps := hashesP (oneP (hashP s).2).1 (oneP (hashP s).2).2 []
  let t := tailP num ps.2
  ({ ob0 with kind := 3, tree := (hashP s).1, parents := ps.1, stamp := t.stamp, author := t.author, msg := mkS t.msg }, t.s.2)
def parse (kind : Int) (b : List UInt8) : Ob × Bool :=
  if kind = 1 then ({ ob0 with kind := 1, data := b }, false)
  else if kind = 2 then
    let r := itemsP num (num (b, false)).1 (num (b, false)).2 []
    ({ ob0 with kind := 2, items := r.1 }, r.2.2)
  else if kind = 3 then parseC num (b, false)
  else ({ ob0 with kind := kind }, false)
end

/-! ### there and back -/
theorem takeP_app {x rest : List UInt8} {n : Nat} (h : x.length = n) : takeP (x ++ rest, false) n = (x, (rest, false)) := by
  unfold takeP
  rw [if_neg (by simp; omega)]
  simp [← h]
theorem oneP_app (c : UInt8) (rest : List UInt8) : oneP (c :: rest, false) = (c.toNat, (rest, false)) := by
  unfold oneP
  rw [show (c :: rest) = [c] ++ rest from rfl, takeP_app (x := [c]) (n := 1) rfl]
  rfl
theorem hashP_app {s : ByteArray} (h : Valid s) (rest : List UInt8) : hashP (rawL s ++ rest, false) = (s, (rest, false)) := by
  unfold hashP
  rw [takeP_app h.raw.1, h.raw.2]
theorem numP_app {n : Nat} (h : n ≤ 72057594037927936) (rest : List UInt8) : numP (putL n ++ rest, false) = (n, (rest, false)) := by
  unfold numP
  simp only [get_put h, if_true]
  rw [takeP_app rfl]
theorem rnumP_app {n : Nat} (h : n ≤ 72057594037927936) (rest : List UInt8) : rnumP (putL n ++ rest, false) = (n, (rest, false)) := by
  unfold rnumP
  simp only [get_put h]
  simp
def Reads (num : Src → Nat × Src) : Prop := ∀ n ≤ 72057594037927936, ∀ rest, num (putL n ++ rest, false) = (n, (rest, false))
theorem itemP_app {num : Src → Nat × Src} (hn : Reads num) {x : It} (h : ItemOk x) (rest : List UInt8) : itemP num (encI x ++ rest, false) = (x, (rest, false)) := by
  obtain ⟨⟨h1, h2⟩, h3, h4⟩ := h
  have hl := h3.2.2.1
  have e1 : oneP (encI x ++ rest, false) = (x.mode.toNat, (putL (bs x.name).length ++ (bs x.name ++ (rawL x.id ++ rest)), false)) := by
    unfold encI
    rw [List.cons_append, oneP_app]
    have := b8_toNat x.mode
    rw [show (b8 x.mode).toNat = x.mode.toNat by omega]
    simp
  unfold itemP
  simp only [e1, hn _ (show (bs x.name).length ≤ 72057594037927936 by omega), takeP_app rfl, hashP_app h4, mkS_bs]
  rw [show ((x.mode.toNat : Nat) : Int) = x.mode by omega]
theorem itemsP_app {num : Src → Nat × Src} (hn : Reads num) : ∀ (l : List It) (acc : List It) (rest : List UInt8), (∀ x ∈ l, ItemOk x) → itemsP num l.length (l.flatMap encI ++ rest, false) acc = (acc ++ l, (rest, false))
  | [], acc, rest, _ => by simp [itemsP]
  | x :: l, acc, rest, h => by
    rw [List.flatMap_cons, List.append_assoc, List.length_cons]
    unfold itemsP
    rw [if_neg (by simp), itemP_app hn (h x (by simp))]
    simp only
    rw [itemsP_app hn l _ rest fun y hy => h y (by simp [hy])]
    simp
theorem hashesP_app : ∀ (l : List ByteArray) (acc : List ByteArray) (rest : List UInt8), (∀ x ∈ l, Valid x) → hashesP l.length (l.flatMap rawL ++ rest, false) acc = (acc ++ l, (rest, false))
  | [], acc, rest, _ => by simp [hashesP]
  | x :: l, acc, rest, h => by
    rw [List.flatMap_cons, List.append_assoc, List.length_cons]
    unfold hashesP
    rw [if_neg (by simp), hashP_app (h x (by simp))]
    simp only
    rw [hashesP_app l _ rest fun y hy => h y (by simp [hy])]
    simp
theorem len0 {α : Type} {l : List α} (h : l.length = 0) : l = [] := List.eq_nil_of_length_eq_zero h
theorem parse_enc {num : Src → Nat × Src} (hn : Reads num) {o : Ob} (h : May o) : parse num o.kind (encT o) = (o, false) := by
  rcases h with ⟨hk, h1, h2, h3, h4, h5, h6, h7⟩ | ⟨hk, h1, h2, h3, h4, h5, h6, h7⟩ | ⟨hk, h1, h2, h3, h4, h5, h6, h7, h8, h9⟩
  · obtain ⟨k, d, it, t, p, s, a, m⟩ := o
    simp only at *
    subst hk h3 h5 h6 h7
    rw [len0 h2, len0 h4]
    simp [parse, encT, ob0]
  · obtain ⟨k, d, it, t, p, s, a, m⟩ := o
    simp only at *
    subst hk h3 h5 h6 h7
    rw [len0 h1, len0 h4]
    have hit := itemsP_app hn it [] [] h2.1
    have hnn := hn it.length (by have := h2.2.2; omega)
    simp only [List.append_nil, List.nil_append] at hit
    simp only [parse, encT, show ¬ ((2 : Int) = 1) by omega, if_false, if_true, hnn, hit]
    rfl
  · obtain ⟨k, d, it, t, p, s, a, m⟩ := o
    simp only at *
    subst hk
    rw [len0 h1, len0 h2]
    have e0 : rawL t ++ [b8 p.length] ++ p.flatMap rawL ++ putL s.toNat ++ putL a.toNat ++ putL (bs m).length ++ bs m = rawL t ++ (b8 p.length :: (p.flatMap rawL ++ (putL s.toNat ++ (putL a.toNat ++ (putL (bs m).length ++ (bs m ++ [])))))) := by simp
    have hp2 := h4.2.2
    have e1 : (b8 (p.length : Int)).toNat = p.length := by
      rw [b8_nat, toNat8]
      omega
    have hm := h9.2
    simp only [parse, encT, show ¬ ((3 : Int) = 1) by omega, show ¬ ((3 : Int) = 2) by omega, if_false, if_true, e0, parseC, hashP_app h3, oneP_app, e1, hashesP_app p [] _ h4.1, tailP, hn _ (show s.toNat ≤ 72057594037927936 by omega), hn _ (show a.toNat ≤ 72057594037927936 by omega), hn _ (show (bs m).length ≤ 72057594037927936 by omega), takeP_app rfl, mkS_bs]
    simp only [List.nil_append, ob0]
    rw [show ((s.toNat : Nat) : Int) = s by omega, show ((a.toNat : Nat) : Int) = a by omega]
theorem reads_num : Reads numP := fun _ h _ => numP_app h _
theorem reads_rnum : Reads rnumP := fun _ h _ => rnumP_app h _
theorem kind_range {o : Ob} (h : May o) : 1 ≤ o.kind ∧ o.kind ≤ 3 := by
  rcases h with ⟨h, _⟩ | ⟨h, _⟩ | ⟨h, _⟩ <;> omega
theorem b8_kind {o : Ob} (h : May o) : ((b8 o.kind).toNat : Int) = o.kind := by
  have := kind_range h
  rw [b8_toNat]
  omega
/-- an object's bytes are read as it -/
theorem dec_enc {num : Src → Nat × Src} (hn : Reads num) {o : Ob} (h : May o) {c : UInt8} {b : List UInt8} (he : enc o = c :: b) : parse num (c.toNat : Int) b = (o, false) := by
  unfold enc at he
  simp only [List.cons.injEq] at he
  rw [← he.1, ← he.2, b8_kind h]
  exact parse_enc hn h
theorem enc_inj {o o' : Ob} (h : May o) (h' : May o') (he : enc o = enc o') : o = o' := by
  have h1 := dec_enc reads_num h (c := b8 o.kind) (b := encT o) rfl
  have h2 := dec_enc reads_num h' (c := b8 o.kind) (b := encT o) he.symm
  rw [h1] at h2
  simpa using h2
/-! ### how long -/
theorem encI_len {x : It} (h : ItemOk x) : (encI x).length ≤ 106 ∧ 32 ≤ (encI x).length := by
  have h1 := h.2.1.2.2.1
  have h2 := h.2.2.raw.1
  have h3 := put_length (n := (bs x.name).length) (by omega)
  unfold encI
  simp only [List.length_cons, List.length_append]
  omega
theorem flat_le {α : Type} {f : α → List UInt8} {K : Nat} : ∀ {l : List α}, (∀ x ∈ l, (f x).length ≤ K) → (l.flatMap f).length ≤ l.length * K
  | [], _ => by simp
  | x :: l, h => by
    have h1 := flat_le (l := l) fun y hy => h y (by simp [hy])
    have h2 := h x (by simp)
    simp only [List.flatMap_cons, List.length_append, List.length_cons, Nat.add_mul]
    omega
theorem flat_ge {α : Type} {f : α → List UInt8} {K : Nat} : ∀ {l : List α}, (∀ x ∈ l, K ≤ (f x).length) → l.length * K ≤ (l.flatMap f).length
  | [], _ => by simp
  | x :: l, h => by
    have h1 := flat_ge (l := l) fun y hy => h y (by simp [hy])
    have h2 := h x (by simp)
    simp only [List.flatMap_cons, List.length_append, List.length_cons, Nat.add_mul]
    omega
theorem refs_len {o : Ob} (h : May o) : 32 * (refsOf o).length ≤ (enc o).length := by
  rcases h with ⟨hk, _⟩ | ⟨hk, h1, h2, _⟩ | ⟨hk, h1, h2, h3, h4, _⟩
  · simp [refsOf, hk]
  · have := flat_ge (l := o.items) (f := encI) (K := 32) fun x hx => (encI_len (h2.1 x hx)).2
    simp only [refsOf, enc, encT, hk, show ¬ ((2 : Int) = 1) by omega, if_false, if_true, List.length_map, List.length_cons, List.length_append]
    omega
  · have g1 := flat_ge (l := o.parents) (f := rawL) (K := 32) fun x hx => by rw [(h4.1 x hx).raw.1]; exact Nat.le_refl _
    have g2 := h3.raw.1
    simp only [refsOf, enc, encT, hk, show ¬ ((3 : Int) = 1) by omega, show ¬ ((3 : Int) = 2) by omega, if_false, if_true, List.length_cons, List.length_append]
    omega
end Go.Proofs.Ytcncgkkilgmphaa
