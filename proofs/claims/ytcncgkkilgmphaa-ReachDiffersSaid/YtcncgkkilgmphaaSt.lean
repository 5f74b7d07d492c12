/-
  Steps: how the text of a function is walked. Rows of cells, worlds that only grow, rules for the operations.
-/
import Derived.Test.YtcncgkkilgmphaaDr
import Derived.Test.YtcncgkkilgmphaaProg
import Derived.Below
import Derived.OwnWalk
import Derived.IntWalk
import Derived.Laws.IdiomMaps
import Derived.WalkLawsBesides
import Derived.WalkSpells
import Derived.Maps.AppendAt
set_option linter.unusedVariables false
set_option linter.unusedSimpArgs false
namespace Go.Proofs.Ytcncgkkilgmphaa
open Go Go.RowKit

theorem mixed : Try.prog.follows .mixedOrders = true := by kernel_rfl

/-! ### 1. simp's own rules for the words -/
def DoesR {α : Type} (r : Result α) (k : α → World → Prop) : Prop :=
  match r with
  | .ok v w => k v w
  | _ => False
@[simp] theorem does_eq {P : Program} {α : Type} (s : Sem α) (w : World) (k : α → World → Prop) : Does P s w k = DoesR (s.run P w) k := by
  unfold Does DoesR
  cases h : s.run P w with
  | ok v w' =>
    apply propext
    constructor
    · rintro ⟨v1, w1, h1, h2⟩
      injection h1 with h1 h3
      subst h1; subst h3
      exact h2
    · exact fun h => ⟨v, w', rfl, h⟩
  | halt x w' =>
    apply propext
    constructor
    · rintro ⟨v1, w1, h1, h2⟩; cases h1
    · exact fun h => h.elim
@[simp] theorem doesR_ok {α : Type} (v : α) (w : World) (k : α → World → Prop) : DoesR (.ok v w) k = k v w := rfl
@[congr] theorem doesR_congr {α : Type} {r r' : Result α} {k : α → World → Prop} (h : r = r') : DoesR r k = DoesR r' k := by rw [h]
@[congr] theorem call_congr {P : Program} {f : FuncId} {a a' : Array Value} {w w' : World} {k : Value → World → Prop} (h : a = a') (hw : w = w') : Call P f a w k = Call P f a' w' k := by rw [h, hw]
@[congr] theorem callV_congr {P : Program} {f f' : Value} {a a' : Array Value} {w w' : World} {k : Value → World → Prop} (hf : f = f') (h : a = a') (hw : w = w') : CallV P f a w k = CallV P f' a' w' k := by rw [hf, h, hw]
@[congr] theorem condP_congr {v v' : Value} {x y : Prop} (h : v = v') : CondP v x y = CondP v' x y := by rw [h]
@[congr] theorem guardP_congr {v v' : Value} {b : Bool} {x y : Prop} (h : v = v') : GuardP v b x y = GuardP v' b x y := by rw [h]
@[congr] theorem pickP_congr {v v' x x' y y' : Value} {k : Value → Prop} (h : v = v') (hx : x = x') (hy : y = y') : PickP v x y k = PickP v' x' y' k := by rw [h, hx, hy]
@[congr] theorem joinP_congr {n : Nat} {x : VF n → Prop} {j : VF n} : JoinP n x j = JoinP n x j := rfl
@[congr] theorem nilP_congr {v v' : Value} {k : Value → Prop} (h : v = v') : NilCheckP v k = NilCheckP v' k := by rw [h]
@[simp] theorem condP_true (x y : Prop) : CondP (.bool true) x y = x := by
  apply propext; unfold CondP; constructor
  · rintro ⟨b, hb, h1, h2⟩; cases hb; exact h1 rfl
  · exact fun h => ⟨true, rfl, fun _ => h, fun h => by cases h⟩
@[simp] theorem condP_false (x y : Prop) : CondP (.bool false) x y = y := by
  apply propext; unfold CondP; constructor
  · rintro ⟨b, hb, h1, h2⟩; cases hb; exact h2 rfl
  · exact fun h => ⟨false, rfl, (fun h => by cases h), fun _ => h⟩
theorem condP_of {b : Bool} {x y : Prop} (hx : b = true → x) (hy : b = false → y) : CondP (.bool b) x y := ⟨b, rfl, hx, hy⟩
@[simp] theorem pickP_true (x y : Value) (k : Value → Prop) : PickP (.bool true) x y k = k x := by
  apply propext; unfold PickP; constructor
  · rintro ⟨b, hb, h⟩; cases hb; exact h
  · exact fun h => ⟨true, rfl, h⟩
@[simp] theorem pickP_false (x y : Value) (k : Value → Prop) : PickP (.bool false) x y k = k y := by
  apply propext; unfold PickP; constructor
  · rintro ⟨b, hb, h⟩; cases hb; exact h
  · exact fun h => ⟨false, rfl, h⟩
theorem pickP_of {b : Bool} {x y : Value} {k : Value → Prop} (h : k (if b then x else y)) : PickP (.bool b) x y k := ⟨b, rfl, h⟩
@[simp] theorem nilP_some (a : Addr) (k : Value → Prop) : NilCheckP (.pointer (some a)) k = k (.pointer (some a)) := rfl
@[simp] theorem guardP_tt (x y : Prop) : GuardP (.bool true) true x y = x := by
  apply propext; unfold GuardP; constructor
  · exact fun h => h.1 rfl
  · exact fun h => ⟨fun _ => h, fun hn => absurd rfl hn⟩
@[simp] theorem guardP_ff (x y : Prop) : GuardP (.bool false) false x y = x := by
  apply propext; unfold GuardP; constructor
  · exact fun h => h.1 rfl
  · exact fun h => ⟨fun _ => h, fun hn => absurd rfl hn⟩
@[simp] theorem guardP_ft (x y : Prop) : GuardP (.bool false) true x y = y := by
  apply propext; unfold GuardP; constructor
  · exact fun h => h.2 (fun hh => by cases hh)
  · exact fun h => ⟨(fun hh => by cases hh), fun _ => h⟩
@[simp] theorem guardP_tf (x y : Prop) : GuardP (.bool true) false x y = y := by
  apply propext; unfold GuardP; constructor
  · exact fun h => h.2 (fun hh => by cases hh)
  · exact fun h => ⟨(fun hh => by cases hh), fun _ => h⟩
@[simp] theorem guardP_undef (b : Bool) (x y : Prop) : GuardP undef b x y = y := by
  apply propext; unfold GuardP undef; constructor
  · exact fun h => h.2 (fun hh => by cases hh)
  · exact fun h => ⟨(fun hh => by cases hh), fun _ => h⟩
/-- a call: its contract, then what follows -/
theorem call_of {P : Program} {f : FuncId} {args : Array Value} {w : World} {k k' : Value → World → Prop} (h : Call P f args w k) (hk : ∀ v w', k v w' → k' v w') : Call P f args w k' := h.mono hk

/-! ### 2. quiet operations -/
def QuietR (C : World → Prop) (r : World → Result Value) (w : World) (k : Value → World → Prop) : Prop := ∃ v, (∀ W, C W → r W = .ok v W) ∧ k v w
@[simp] theorem quiet_eq {P : Program} {C : World → Prop} (s : Sem Value) (w : World) (k : Value → World → Prop) : Quiet P C s w k = QuietR C (fun W => s.run P W) w k := rfl
@[congr] theorem quietR_congr {C : World → Prop} {r r' : World → Result Value} {w : World} {k : Value → World → Prop} (h : ∀ W, C W → r W = r' W) : QuietR C r w k = QuietR C r' w k := by
  apply propext; unfold QuietR
  constructor
  · rintro ⟨v, h1, h2⟩; exact ⟨v, fun W hW => (h W hW).symm.trans (h1 W hW), h2⟩
  · rintro ⟨v, h1, h2⟩; exact ⟨v, fun W hW => (h W hW).trans (h1 W hW), h2⟩
theorem quietR_ok {C : World → Prop} {v : Value} {w : World} {k : Value → World → Prop} (hC : ∃ W, C W) : QuietR C (fun W => .ok v W) w k = k v w := by
  apply propext; unfold QuietR
  constructor
  · rintro ⟨v', h1, h2⟩
    obtain ⟨W, hW⟩ := hC
    have := h1 W hW
    injection this with h3
    subst h3
    exact h2
  · exact fun h => ⟨v, fun _ _ => rfl, h⟩
@[congr] theorem qcall_congr {P : Program} {C : World → Prop} {f : FuncId} {a a' : Array Value} {w : World} {k : Value → World → Prop} (h : a = a') : QCall P C f a w k = QCall P C f a' w k := by rw [h]
theorem qcall_of {P : Program} {C : World → Prop} {f : FuncId} {args : Array Value} {w : World} {k : Value → World → Prop} (v : Value) (h : ∀ W, C W → Call P f args W fun u W' => u = v ∧ C W') (hk : k v w) : QCall P C f args w k := ⟨v, h, hk⟩

/-! ### 3. worlds that only grow -/
/-- What was there is as it was. -/
def Ext (w w' : World) : Prop := Below w.heap.size w w'
theorem Ext.refl (w : World) : Ext w w := Below.refl _ _
theorem Ext.trans {a b c : World} (h : Ext a b) (k : Ext b c) : Ext a c := Below.trans h (Below.mono k h.size)
theorem Ext.cell {w w' : World} (h : Ext w w') {a : Addr} {v : Value} (hc : w.cell? a = some v) : w'.cell? a = some v :=
  (Below.cell h (World.block_lt_of_cell? w a hc)).trans hc
theorem Ext.block {w w' : World} (h : Ext w w') {b : Nat} {o : Obj} (hb : w.heap[b]? = some o) : w'.heap[b]? = some o :=
  (Below.block h b (Array.getElem?_eq_some_iff.1 hb).1).trans hb
theorem Ext.size {w w' : World} (h : Ext w w') : w.heap.size ≤ w'.heap.size := Below.size h
theorem Ext.drew {w w' : World} (h : Ext w w') : Ext w w'.drew := Below.drew h
theorem Ext.alloc {w w' : World} (h : Ext w w') (o : Obj) : Ext w (w'.alloc o) := Below.alloc h h.size o
theorem Ext.grown {w w' w2 : World} {row : Option Nat} (h : Ext w w') (hg : w'.grownBy w2 row) (hr : ∀ k, row = some k → w.heap.size ≤ k) : Ext w w2 := Below.grown h hg h.size hr
theorem Ext.setCell {w w' : World} (h : Ext w w') {p : Addr} (hp : w.heap.size ≤ p.block) (u : Value) : Ext w (w'.setCell p u) := Below.setCell h hp u
theorem Ext.drawn (w : World) : Ext w { w with drawn := w.drawn + 1 } := Below.drew (Below.refl _ _)
theorem Ext.below {w w' : World} (h : Ext w w') {B : Nat} (hB : B ≤ w.heap.size) : Below B w w' := Below.mono h hB

/-! ### 4. rows that are read -/
/-- v is a slice whose elements, of one cell each, are xs. -/
def Row (w : World) (v : Value) (xs : List Value) : Prop :=
  ∃ a c, v = .slice a xs.length c ∧ (xs.length ≤ maxLen ∧ xs.length ≤ c) ∧ ∀ j x, xs[j]? = some x → ∃ ad, a = some ad ∧ w.cell? (ad.add j) = some x
def strsV (l : List ByteArray) : List Value := l.map .string
def bytesV (l : List UInt8) : List Value := l.map fun b => .int .u8 (b.toNat : Int)
def intsV (l : List Int) : List Value := l.map fun b => .int .i64 b
@[simp] theorem strsV_length (l : List ByteArray) : (strsV l).length = l.length := by simp [strsV]
@[simp] theorem bytesV_length (l : List UInt8) : (bytesV l).length = l.length := by simp [bytesV]
@[simp] theorem intsV_length (l : List Int) : (intsV l).length = l.length := by simp [intsV]
theorem strsV_append (a b : List ByteArray) : strsV (a ++ b) = strsV a ++ strsV b := by simp [strsV]
theorem bytesV_append (a b : List UInt8) : bytesV (a ++ b) = bytesV a ++ bytesV b := by simp [bytesV]
theorem Row.ext {w w' : World} {v : Value} {xs : List Value} (h : Row w v xs) (hE : Ext w w') : Row w' v xs := by
  obtain ⟨a, c, hv, hl, hc⟩ := h
  exact ⟨a, c, hv, hl, fun j x hj => let ⟨ad, h1, h2⟩ := hc j x hj; ⟨ad, h1, hE.cell h2⟩⟩
theorem Row.nil (w : World) (c : Nat) (a : Option Addr) : Row w (.slice a 0 c) [] := ⟨a, c, rfl, ⟨by simp, by simp⟩, fun j x h => by simp at h⟩
theorem Row.slice {w : World} {v : Value} {xs : List Value} (h : Row w v xs) : ∃ a c, v = .slice a xs.length c := let ⟨a, c, hv, _⟩ := h; ⟨a, c, hv⟩
theorem Row.len_le {w : World} {v : Value} {xs : List Value} (h : Row w v xs) : xs.length ≤ 9223372036854775807 := by
  obtain ⟨a, c, hv, hl, _⟩ := h
  simpa [maxLen] using hl.1
section
variable {P : Program} {w : World} {v : Value} {xs : List Value} {k : Value → World → Prop}
theorem Row.len {w0 : World} {t ty : TypeId} {e : TypeId} (h : Row w0 v xs) (ht : P.underlying t = some (.slice e)) (hk : k (.int .i64 xs.length) w) : Does P (Builtin.len_ #[t] ty #[v]) w k := by
  obtain ⟨a, c, rfl, hl, _⟩ := h
  have he : P.elem t = e := by simp [Program.elem, ht]
  rw [does_eq, run_len_slice (h := by rw [he]; exact ht)]
  exact hk
end

/-! ### 5. loops -/
theorem rounds_app {k : Nat} {B : VF k → VF k} (I : List Value → World → Prop) (μ : List Value → World → Nat) (hI : ∀ l w, I l w → l.length = k)
    (step : ∀ next l w, I l w → (∀ l' w', I l' w' → μ l' w' < μ l w → app k next l' w') → app k (B next) l w) {l0 : List Value} {w0 : World} (h0 : I l0 w0) : app k (Rounds k B) l0 w0 := by
  unfold Rounds
  rw [app_cur _ _ _ _ (hI _ _ h0)]
  have : ∀ m l w, I l w → μ l w < m → app k (RN k B m) l w := by
    intro m
    induction m with
    | zero => intro l w _ h; omega
    | succ m ih =>
      intro l w hl hm
      unfold RN
      exact step _ l w hl fun l' w' hl' hm' => ih l' w' hl' (by omega)
  exact ⟨_, this (μ l0 w0 + 1) l0 w0 h0 (by omega)⟩
/-- A loop whose state, beside the world, is some s: 'enc' tells the slots. -/
theorem rounds_ind {k : Nat} {B : VF k → VF k} {σ : Type} (enc : σ → List Value) (I : σ → World → Prop) (μ : σ → World → Nat) (hlen : ∀ s, (enc s).length = k)
    (step : ∀ next s w, I s w → (∀ s' l' w', l' = enc s' → I s' w' → μ s' w' < μ s w → app k next l' w') → app k (B next) (enc s) w) (s0 : σ) {l0 : List Value} {w0 : World} (hl : l0 = enc s0) (h0 : I s0 w0) : app k (Rounds k B) l0 w0 := by
  subst hl
  unfold Rounds
  rw [app_cur _ _ _ _ (hlen _)]
  have : ∀ m s w, I s w → μ s w < m → app k (RN k B m) (enc s) w := by
    intro m
    induction m with
    | zero => intro l w _ h; omega
    | succ m ih =>
      intro s w hs hm
      unfold RN
      exact step _ s w hs fun s' l' w' he hs' hm' => by subst he; exact ih s' w' hs' (by omega)
  exact ⟨_, this (μ s0 w0 + 1) s0 w0 h0 (by omega)⟩
theorem rounds1 {B : VF 1 → VF 1} {σ : Type} (e0 : σ → Value) (I : σ → World → Prop) (μ : σ → World → Nat) (s0 : σ) {v0 : Value} {w : World} (h0 : v0 = e0 s0) (hI : I s0 w)
    (step : ∀ (next : VF 1) (s : σ) (w : World), I s w → (∀ (s' : σ) (u0 : Value) (w' : World), u0 = e0 s' → I s' w' → μ s' w' < μ s w → next u0 w') → B next (e0 s) w) : Rounds 1 B v0 w :=
  rounds_ind (k := 1) (fun s => [e0 s]) I μ (fun _ => rfl)
    (fun next s w hs hn => step next s w hs fun s' u0 w' g0 hi hm => hn s' [u0] w' (by rw [g0]) hi hm) s0 (l0 := [v0]) (by rw [h0]) hI
theorem rounds2 {B : VF 2 → VF 2} {σ : Type} (e0 e1 : σ → Value) (I : σ → World → Prop) (μ : σ → World → Nat) (s0 : σ) {v0 v1 : Value} {w : World} (h0 : v0 = e0 s0) (h1 : v1 = e1 s0) (hI : I s0 w)
    (step : ∀ (next : VF 2) (s : σ) (w : World), I s w → (∀ (s' : σ) (u0 u1 : Value) (w' : World), u0 = e0 s' → u1 = e1 s' → I s' w' → μ s' w' < μ s w → next u0 u1 w') → B next (e0 s) (e1 s) w) : Rounds 2 B v0 v1 w :=
  rounds_ind (k := 2) (fun s => [e0 s, e1 s]) I μ (fun _ => rfl)
    (fun next s w hs hn => step next s w hs fun s' u0 u1 w' g0 g1 hi hm => hn s' [u0, u1] w' (by rw [g0, g1]) hi hm) s0 (l0 := [v0, v1]) (by rw [h0, h1]) hI
theorem rounds3 {B : VF 3 → VF 3} {σ : Type} (e0 e1 e2 : σ → Value) (I : σ → World → Prop) (μ : σ → World → Nat) (s0 : σ) {v0 v1 v2 : Value} {w : World} (h0 : v0 = e0 s0) (h1 : v1 = e1 s0) (h2 : v2 = e2 s0) (hI : I s0 w)
    (step : ∀ (next : VF 3) (s : σ) (w : World), I s w → (∀ (s' : σ) (u0 u1 u2 : Value) (w' : World), u0 = e0 s' → u1 = e1 s' → u2 = e2 s' → I s' w' → μ s' w' < μ s w → next u0 u1 u2 w') → B next (e0 s) (e1 s) (e2 s) w) : Rounds 3 B v0 v1 v2 w :=
  rounds_ind (k := 3) (fun s => [e0 s, e1 s, e2 s]) I μ (fun _ => rfl)
    (fun next s w hs hn => step next s w hs fun s' u0 u1 u2 w' g0 g1 g2 hi hm => hn s' [u0, u1, u2] w' (by rw [g0, g1, g2]) hi hm) s0 (l0 := [v0, v1, v2]) (by rw [h0, h1, h2]) hI
theorem rounds4 {B : VF 4 → VF 4} {σ : Type} (e0 e1 e2 e3 : σ → Value) (I : σ → World → Prop) (μ : σ → World → Nat) (s0 : σ) {v0 v1 v2 v3 : Value} {w : World} (h0 : v0 = e0 s0) (h1 : v1 = e1 s0) (h2 : v2 = e2 s0) (h3 : v3 = e3 s0) (hI : I s0 w)
    (step : ∀ (next : VF 4) (s : σ) (w : World), I s w → (∀ (s' : σ) (u0 u1 u2 u3 : Value) (w' : World), u0 = e0 s' → u1 = e1 s' → u2 = e2 s' → u3 = e3 s' → I s' w' → μ s' w' < μ s w → next u0 u1 u2 u3 w') → B next (e0 s) (e1 s) (e2 s) (e3 s) w) : Rounds 4 B v0 v1 v2 v3 w :=
  rounds_ind (k := 4) (fun s => [e0 s, e1 s, e2 s, e3 s]) I μ (fun _ => rfl)
    (fun next s w hs hn => step next s w hs fun s' u0 u1 u2 u3 w' g0 g1 g2 g3 hi hm => hn s' [u0, u1, u2, u3] w' (by rw [g0, g1, g2, g3]) hi hm) s0 (l0 := [v0, v1, v2, v3]) (by rw [h0, h1, h2, h3]) hI
theorem rounds5 {B : VF 5 → VF 5} {σ : Type} (e0 e1 e2 e3 e4 : σ → Value) (I : σ → World → Prop) (μ : σ → World → Nat) (s0 : σ) {v0 v1 v2 v3 v4 : Value} {w : World} (h0 : v0 = e0 s0) (h1 : v1 = e1 s0) (h2 : v2 = e2 s0) (h3 : v3 = e3 s0) (h4 : v4 = e4 s0) (hI : I s0 w)
    (step : ∀ (next : VF 5) (s : σ) (w : World), I s w → (∀ (s' : σ) (u0 u1 u2 u3 u4 : Value) (w' : World), u0 = e0 s' → u1 = e1 s' → u2 = e2 s' → u3 = e3 s' → u4 = e4 s' → I s' w' → μ s' w' < μ s w → next u0 u1 u2 u3 u4 w') → B next (e0 s) (e1 s) (e2 s) (e3 s) (e4 s) w) : Rounds 5 B v0 v1 v2 v3 v4 w :=
  rounds_ind (k := 5) (fun s => [e0 s, e1 s, e2 s, e3 s, e4 s]) I μ (fun _ => rfl)
    (fun next s w hs hn => step next s w hs fun s' u0 u1 u2 u3 u4 w' g0 g1 g2 g3 g4 hi hm => hn s' [u0, u1, u2, u3, u4] w' (by rw [g0, g1, g2, g3, g4]) hi hm) s0 (l0 := [v0, v1, v2, v3, v4]) (by rw [h0, h1, h2, h3, h4]) hI
theorem rounds6 {B : VF 6 → VF 6} {σ : Type} (e0 e1 e2 e3 e4 e5 : σ → Value) (I : σ → World → Prop) (μ : σ → World → Nat) (s0 : σ) {v0 v1 v2 v3 v4 v5 : Value} {w : World} (h0 : v0 = e0 s0) (h1 : v1 = e1 s0) (h2 : v2 = e2 s0) (h3 : v3 = e3 s0) (h4 : v4 = e4 s0) (h5 : v5 = e5 s0) (hI : I s0 w)
    (step : ∀ (next : VF 6) (s : σ) (w : World), I s w → (∀ (s' : σ) (u0 u1 u2 u3 u4 u5 : Value) (w' : World), u0 = e0 s' → u1 = e1 s' → u2 = e2 s' → u3 = e3 s' → u4 = e4 s' → u5 = e5 s' → I s' w' → μ s' w' < μ s w → next u0 u1 u2 u3 u4 u5 w') → B next (e0 s) (e1 s) (e2 s) (e3 s) (e4 s) (e5 s) w) : Rounds 6 B v0 v1 v2 v3 v4 v5 w :=
  rounds_ind (k := 6) (fun s => [e0 s, e1 s, e2 s, e3 s, e4 s, e5 s]) I μ (fun _ => rfl)
    (fun next s w hs hn => step next s w hs fun s' u0 u1 u2 u3 u4 u5 w' g0 g1 g2 g3 g4 g5 hi hm => hn s' [u0, u1, u2, u3, u4, u5] w' (by rw [g0, g1, g2, g3, g4, g5]) hi hm) s0 (l0 := [v0, v1, v2, v3, v4, v5]) (by rw [h0, h1, h2, h3, h4, h5]) hI
theorem rounds7 {B : VF 7 → VF 7} {σ : Type} (e0 e1 e2 e3 e4 e5 e6 : σ → Value) (I : σ → World → Prop) (μ : σ → World → Nat) (s0 : σ) {v0 v1 v2 v3 v4 v5 v6 : Value} {w : World} (h0 : v0 = e0 s0) (h1 : v1 = e1 s0) (h2 : v2 = e2 s0) (h3 : v3 = e3 s0) (h4 : v4 = e4 s0) (h5 : v5 = e5 s0) (h6 : v6 = e6 s0) (hI : I s0 w)
    (step : ∀ (next : VF 7) (s : σ) (w : World), I s w → (∀ (s' : σ) (u0 u1 u2 u3 u4 u5 u6 : Value) (w' : World), u0 = e0 s' → u1 = e1 s' → u2 = e2 s' → u3 = e3 s' → u4 = e4 s' → u5 = e5 s' → u6 = e6 s' → I s' w' → μ s' w' < μ s w → next u0 u1 u2 u3 u4 u5 u6 w') → B next (e0 s) (e1 s) (e2 s) (e3 s) (e4 s) (e5 s) (e6 s) w) : Rounds 7 B v0 v1 v2 v3 v4 v5 v6 w :=
  rounds_ind (k := 7) (fun s => [e0 s, e1 s, e2 s, e3 s, e4 s, e5 s, e6 s]) I μ (fun _ => rfl)
    (fun next s w hs hn => step next s w hs fun s' u0 u1 u2 u3 u4 u5 u6 w' g0 g1 g2 g3 g4 g5 g6 hi hm => hn s' [u0, u1, u2, u3, u4, u5, u6] w' (by rw [g0, g1, g2, g3, g4, g5, g6]) hi hm) s0 (l0 := [v0, v1, v2, v3, v4, v5, v6]) (by rw [h0, h1, h2, h3, h4, h5, h6]) hI
theorem rounds8 {B : VF 8 → VF 8} {σ : Type} (e0 e1 e2 e3 e4 e5 e6 e7 : σ → Value) (I : σ → World → Prop) (μ : σ → World → Nat) (s0 : σ) {v0 v1 v2 v3 v4 v5 v6 v7 : Value} {w : World} (h0 : v0 = e0 s0) (h1 : v1 = e1 s0) (h2 : v2 = e2 s0) (h3 : v3 = e3 s0) (h4 : v4 = e4 s0) (h5 : v5 = e5 s0) (h6 : v6 = e6 s0) (h7 : v7 = e7 s0) (hI : I s0 w)
    (step : ∀ (next : VF 8) (s : σ) (w : World), I s w → (∀ (s' : σ) (u0 u1 u2 u3 u4 u5 u6 u7 : Value) (w' : World), u0 = e0 s' → u1 = e1 s' → u2 = e2 s' → u3 = e3 s' → u4 = e4 s' → u5 = e5 s' → u6 = e6 s' → u7 = e7 s' → I s' w' → μ s' w' < μ s w → next u0 u1 u2 u3 u4 u5 u6 u7 w') → B next (e0 s) (e1 s) (e2 s) (e3 s) (e4 s) (e5 s) (e6 s) (e7 s) w) : Rounds 8 B v0 v1 v2 v3 v4 v5 v6 v7 w :=
  rounds_ind (k := 8) (fun s => [e0 s, e1 s, e2 s, e3 s, e4 s, e5 s, e6 s, e7 s]) I μ (fun _ => rfl)
    (fun next s w hs hn => step next s w hs fun s' u0 u1 u2 u3 u4 u5 u6 u7 w' g0 g1 g2 g3 g4 g5 g6 g7 hi hm => hn s' [u0, u1, u2, u3, u4, u5, u6, u7] w' (by rw [g0, g1, g2, g3, g4, g5, g6, g7]) hi hm) s0 (l0 := [v0, v1, v2, v3, v4, v5, v6, v7]) (by rw [h0, h1, h2, h3, h4, h5, h6, h7]) hI

/-! ### 6. operations, by what they read -/
section
variable {P : Program} {w : World} {v : Value} {xs : List Value} {k : Value → World → Prop}
theorem Row.index {w0 : World} {t e : TypeId} {kk : IntKind} {i : Nat} (h : Row w0 v xs) (ht : P.underlying t = some (.slice e)) (hs : ∀ w, (sizeOf e).run P w = .ok 1 w) (hi : i < xs.length)
    (hk : ∀ p, w0.cell? p = some xs[i] → k (.pointer (some p)) w) : Does P (Instr.indexAt t v (.int kk i)) w k := by
  obtain ⟨a, c, rfl, hl, hc⟩ := h
  obtain ⟨ad, rfl, hcell⟩ := hc i xs[i] (by simp [hi])
  have he : P.elem t = e := by simp [Program.elem, ht]
  rw [does_eq, run_indexAt_slice (h := by rw [he]; exact ht), if_pos ⟨by omega, by omega⟩, he, hs]
  simp only [Result.andThen_ok, Nat.mul_one, Int.toNat_natCast, doesR_ok]
  exact hk _ hcell
theorem does_load1 {t : TypeId} {p : Addr} {x : Value} (ha : ∀ w, (isAgg t).run P w = .ok false w) (hc : w.cell? p = some x) (hk : k x w) : Does P (Instr.loadAt t (.pointer (some p))) w k := by
  simp [does_eq, Instr.loadAt, Instr.sureAddr, loadVar, ha, go_sem, hc]
  exact hk
theorem toList_inj {a b : ByteArray} (h : a.toList = b.toList) : a = b := by
  rw [ByteArray.toList_eq, ByteArray.toList_eq] at h
  cases a; cases b
  simp at h
  simp [h]
theorem beq_str (a b : ByteArray) : (a.toList == b.toList) = decide (a = b) := by
  by_cases h : a = b
  · subst h; simp
  · simp only [h, decide_false, beq_eq_false_iff_ne, ne_eq]
    exact fun hh => h (toList_inj hh)
theorem does_eqS {t : TypeId} {x y : Operand} {a b : ByteArray} (hk : k (.bool (decide (a = b))) w) : Does P (eqE .eql t x y (.string a) (.string b)) w k := by
  simp only [does_eq, eqE]
  simp [go_sem, beq_str]
  exact hk
theorem does_neS {t : TypeId} {x y : Operand} {a b : ByteArray} (hk : k (.bool (!decide (a = b))) w) : Does P (eqE .neq t x y (.string a) (.string b)) w k := by
  simp only [does_eq, eqE]
  simp [go_sem, beq_str]
  exact hk
theorem does_eqI {t : TypeId} {x y : Operand} {kk : IntKind} {a b : Int} (hk : k (.bool (decide (a = b))) w) : Does P (eqE .eql t x y (.int kk a) (.int kk b)) w k := by
  simp only [does_eq, eqE]
  simp [go_sem]
  exact hk
theorem does_neI {t : TypeId} {x y : Operand} {kk : IntKind} {a b : Int} (hk : k (.bool (!decide (a = b))) w) : Does P (eqE .neq t x y (.int kk a) (.int kk b)) w k := by
  simp only [does_eq, eqE]
  simp [go_sem, bne]
  exact hk
theorem does_lt {t : TypeId} {kk : IntKind} {a b : Int} (hk : k (.bool (decide (a < b))) w) : Does P (binOp .lss t (.int kk a) (.int kk b)) w k := by simpa [go_sem] using hk
theorem does_le {t : TypeId} {kk : IntKind} {a b : Int} (hk : k (.bool (decide (a ≤ b))) w) : Does P (binOp .leq t (.int kk a) (.int kk b)) w k := by simpa [go_sem] using hk
theorem does_gt {t : TypeId} {kk : IntKind} {a b : Int} (hk : k (.bool (decide (b < a))) w) : Does P (binOp .gtr t (.int kk a) (.int kk b)) w k := by simpa [go_sem] using hk
theorem does_ge {t : TypeId} {kk : IntKind} {a b : Int} (hk : k (.bool (decide (b ≤ a))) w) : Does P (binOp .geq t (.int kk a) (.int kk b)) w k := by simpa [go_sem] using hk
theorem wrap_i64 {x : Int} (h1 : -9223372036854775808 ≤ x) (h2 : x ≤ 9223372036854775807) : IntKind.i64.wrap x = x := IntWalk.i64_in x ⟨h1, h2⟩
theorem does_add {t : TypeId} {a b : Int} (h1 : -9223372036854775808 ≤ a + b) (h2 : a + b ≤ 9223372036854775807) (hk : k (.int .i64 (a + b)) w) : Does P (binOp .add t (.int .i64 a) (.int .i64 b)) w k := by
  rw [does_eq, binOp_add]
  simp only [Op.intArith, Sem.run_pure, doesR_ok, wrap_i64 h1 h2]
  exact hk
theorem does_sub {t : TypeId} {a b : Int} (h1 : -9223372036854775808 ≤ a - b) (h2 : a - b ≤ 9223372036854775807) (hk : k (.int .i64 (a - b)) w) : Does P (binOp .sub t (.int .i64 a) (.int .i64 b)) w k := by
  rw [does_eq, binOp_sub]
  simp only [Op.intArith, Sem.run_pure, doesR_ok, wrap_i64 h1 h2]
  exact hk
theorem does_not {b : Bool} (hk : k (.bool (!b)) w) : Does P (Op.unary .not (.bool b)) w k := by simpa [Op.unary] using hk
theorem does_extract {vs : Array Value} {i : Nat} {x : Value} (h : vs[i]? = some x) (hk : k x w) : Does P (Instr.extract (.tuple vs) i) w k := by
  rw [does_eq]
  simp only [Instr.extract, h, Sem.run_pure, doesR_ok]
  exact hk
end

/-! ### 7. rows of the call's own -/
def Own (w : World) (base : Nat) (e : TypeId) (v : Value) (xs : List Value) : Prop := w.ownsRow base e 1 v xs.length xs
/-- the written row of the one is not the other's -/
def Sep (v u : Value) : Prop := v.ownBlock = none ∨ v.ownBlock ≠ u.ownBlock
theorem Sep.symm {v u : Value} (h : Sep v u) : Sep u v := by
  unfold Sep at *
  cases hu : u.ownBlock with
  | none => exact .inl rfl
  | some b =>
    rcases h with h | h
    · rw [h]; exact .inr (by simp)
    · rw [hu] at h; exact .inr (Ne.symm h)
theorem Own.nil (w : World) (base : Nat) (e : TypeId) : Own w base e (.slice none 0 0) [] := ⟨by simp, .inl ⟨rfl, rfl⟩⟩
theorem Own.row {w : World} {base : Nat} {e : TypeId} {v : Value} {xs : List Value} (h : Own w base e v xs) : Row w v xs := by
  rcases h.2 with ⟨rfl, h0⟩ | ⟨g, cap, cur, rfl, hb, hg, hn, hm, hs, ht⟩
  · have : xs = [] := List.eq_nil_of_length_eq_zero h0
    subst this
    exact Row.nil _ _ _
  · refine ⟨_, _, rfl, ⟨by omega, hn⟩, fun j x hj => ⟨_, rfl, h.cells (g := g) rfl j x hj⟩⟩
theorem Own.kept {w w' : World} {base : Nat} {e : TypeId} {v : Value} {xs : List Value} {row : Option Nat} (h : Own w base e v xs) (hg : w.grownBy w' row) (hne : v.ownBlock = none ∨ v.ownBlock ≠ row) : Own w' base e v xs := World.ownsRow.kept h hg hne
theorem Own.ext {w w' : World} {base : Nat} {e : TypeId} {v : Value} {xs : List Value} (h : Own w base e v xs) (hE : Ext w w') : Own w' base e v xs :=
  h.kept (row := none) ⟨hE.os, hE.tape, hE.output, Below.size hE, fun i hi _ => Below.block hE i hi⟩ (by cases v.ownBlock <;> simp)
theorem Own.mono {w : World} {base base' : Nat} {e : TypeId} {v : Value} {xs : List Value} (h : Own w base e v xs) (hb : base' ≤ base) : Own w base' e v xs := by
  refine ⟨h.1, ?_⟩
  rcases h.2 with h2 | ⟨g, cap, cur, hv, hg, r⟩
  · exact .inl h2
  · exact .inr ⟨g, cap, cur, hv, by omega, r⟩
theorem Own.lt {w : World} {base : Nat} {e : TypeId} {v : Value} {xs : List Value} (h : Own w base e v xs) : ∀ k, v.ownBlock = some k → base ≤ k ∧ k < w.heap.size := World.ownsRow.lt h
theorem Own.slice {w : World} {base : Nat} {e : TypeId} {v : Value} {xs : List Value} (h : Own w base e v xs) : ∃ a c, v = .slice a xs.length c := h.row.slice
theorem Own.ge {w : World} {base : Nat} {e : TypeId} {v : Value} {xs : List Value} (h : Own w base e v xs) : ∀ k, v.ownBlock = some k → base ≤ k := fun k hk => (h.lt k hk).1
theorem Ext.grownOwn {w0 w w' : World} {e : TypeId} {v : Value} {xs : List Value} (h : Ext w0 w) (ho : Own w w0.heap.size e v xs) (hg : w.grownBy w' v.ownBlock) : Ext w0 w' := h.grown hg ho.ge
theorem Ext.ofGrownNone {w w' : World} (hg : w.grownBy w' none) : Ext w w' := (Ext.refl w).grown hg (by simp)
/-- what lies in a block made since is another row -/
theorem Sep.new {w : World} {v u : Value} {n : Nat} (hv : ∀ k, v.ownBlock = some k → k < n) (hu : ∀ k, u.ownBlock = some k → n ≤ k) : Sep v u := by
  unfold Sep
  cases h : v.ownBlock with
  | none => exact .inl rfl
  | some b =>
    refine .inr fun hh => ?_
    have h1 := hv b h
    have h2 := hu b hh.symm
    omega
section
variable {P : Program} {w : World} {k : Value → World → Prop}
def infoOf (P : Program) (e : TypeId) (z : Value) (bytes : Nat) : Prop := (P.info? e).map (fun i => (i.zero, i.size, i.bytes)) = some (some z, 1, bytes)
theorem Own.append {t ty e : TypeId} {z : Value} {bytes base : Nat} {v x : Value} {xs ys : List Value} (h : Own w base e v xs) (ht : P.underlying t = some (.slice e)) (hi : infoOf P e z bytes) (hz : z.cells.size = 1)
    (hr : Row w x ys) (h1 : ∀ u ∈ ys, u.oneCell' = true) (hb : (xs.length + ys.length) * bytes ≤ 140737488355328) (hb0 : 0 < bytes) (hbase : base ≤ w.heap.size)
    (hk : ∀ v' w', Own w' base e v' (xs ++ ys) → w.grownBy w' v.ownBlock → (v'.ownBlock = v.ownBlock ∨ v'.ownBlock = some w.heap.size) → k v' w') : Does P (Builtin.append_ #[t, t] ty #[v, x]) w k := by
  obtain ⟨i0, hi0, hzz⟩ := Option.map_eq_some_iff.1 hi
  simp only [Prod.mk.injEq] at hzz
  obtain ⟨hz0, hz1, hz2⟩ := hzz
  obtain ⟨a, c, rfl, hl, hc⟩ := hr
  have hle : xs.length + ys.length ≤ 140737488355328 := Nat.le_trans (Nat.le_mul_of_pos_right _ hb0) hb
  cases a with
  | some ad =>
    obtain ⟨v', w', hrun, hown, hg, _, hat⟩ := run_append_own_at (P := P) w base t ty e i0 z 1 bytes ht hi0 hz0 hz1 hz2 hz (by omega) v xs.length xs h ad ys.length c ys (by simp) (fun j u hj => by obtain ⟨ad', h1, h2⟩ := hc j u hj; cases h1; exact h2) h1 (by simp only [maxLen]; omega) hb hbase
    rw [does_eq, hrun]
    exact hk v' w' (by unfold Own; rw [List.length_append]; exact hown) hg hat
  | none =>
    have hys : ys = [] := by
      cases ys with
      | nil => rfl
      | cons y ys => obtain ⟨ad, h1, _⟩ := hc 0 y rfl; cases h1
    subst hys
    have hrun : (Builtin.append_ #[t, t] ty #[v, .slice none 0 c]).run P w = .ok v w := by
      rcases h.2 with ⟨rfl, h0⟩ | ⟨g, cap, cur, rfl, _, hg, hn, hm, hs, htk⟩
      · simp [Builtin.append_, run_underlying ht, sizeOf, typeInfo, hi0, hz1, Builtin.lenOf, Builtin.firstCells]
      · simp only [Builtin.append_, List.getElem?_toArray, List.getElem?_cons_zero, List.getElem?_cons_succ]
        have hlt : xs.length ≤ cap := hn
        simp [run_underlying ht, sizeOf, typeInfo, hi0, hz1, Builtin.lenOf, Builtin.firstCells, hlt, storeCells]
    rw [does_eq, List.length_nil, hrun]
    refine hk v w (by simpa using h) ⟨rfl, rfl, rfl, Nat.le_refl _, fun _ _ _ => rfl⟩ (.inl rfl)
end

/-! ### 8. order of texts -/
def blt (a b : ByteArray) : Bool := Op.bytesLess a.toList b.toList
theorem bytesLess_irrefl : ∀ l : List UInt8, Op.bytesLess l l = false
  | [] => rfl
  | a :: l => by simp [Op.bytesLess, bytesLess_irrefl l]
theorem bytesLess_trans : ∀ {a b c : List UInt8}, Op.bytesLess a b = true → Op.bytesLess b c = true → Op.bytesLess a c = true
  | _, [], _, h, _ => by simp [Op.bytesLess] at h
  | _, _ :: _, [], _, h => by simp [Op.bytesLess] at h
  | [], _ :: _, _ :: _, _, _ => rfl
  | x :: a, y :: b, z :: c, h, k => by
    simp only [Op.bytesLess, Bool.or_eq_true, decide_eq_true_eq, Bool.and_eq_true, beq_iff_eq] at h k ⊢
    rcases h with h | ⟨rfl, h⟩
    · rcases k with k | ⟨rfl, k⟩
      · exact .inl (UInt8.lt_trans h k)
      · exact .inl h
    · rcases k with k | ⟨rfl, k⟩
      · exact .inl k
      · exact .inr ⟨rfl, bytesLess_trans h k⟩
theorem bytesLess_total : ∀ {a b : List UInt8}, Op.bytesLess a b = false → Op.bytesLess b a = false → a = b
  | [], [], _, _ => rfl
  | [], _ :: _, h, _ => by simp [Op.bytesLess] at h
  | _ :: _, [], _, h => by simp [Op.bytesLess] at h
  | x :: a, y :: b, h, k => by
    simp only [Op.bytesLess, Bool.or_eq_false_iff, decide_eq_false_iff_not, Bool.and_eq_false_iff, beq_eq_false_iff_ne] at h k
    have hxy : x = y := by
      have h1 := h.1
      have h2 := k.1
      simp only [UInt8.lt_iff_toNat_lt] at h1 h2
      exact UInt8.toNat_inj.1 (by omega)
    subst hxy
    have h1 := h.2.resolve_left (by simp)
    have h2 := k.2.resolve_left (by simp)
    rw [bytesLess_total h1 h2]
theorem blt_irrefl (a : ByteArray) : blt a a = false := bytesLess_irrefl _
theorem blt_trans {a b c : ByteArray} (h : blt a b = true) (k : blt b c = true) : blt a c = true := bytesLess_trans h k
theorem blt_total {a b : ByteArray} (h : blt a b = false) (k : blt b a = false) : a = b := toList_inj (bytesLess_total h k)
theorem blt_asymm {a b : ByteArray} (h : blt a b = true) : blt b a = false := by
  cases k : blt b a
  · rfl
  · have := blt_trans h k; rw [blt_irrefl] at this; cases this
theorem blt_or_eq (a b : ByteArray) : (blt a b || decide (a = b)) = !blt b a := by
  by_cases h : a = b
  · subst h; simp [blt_irrefl]
  · simp only [h, decide_false, Bool.or_false]
    cases h1 : blt a b with
    | true => simp [blt_asymm h1]
    | false =>
      cases h2 : blt b a with
      | true => rfl
      | false => exact absurd (blt_total h1 h2) h
section
variable {P : Program} {w : World} {k : Value → World → Prop}
theorem run_ltS {t : TypeId} {a b : ByteArray} (w : World) : (binOp .lss t (.string a) (.string b)).run P w = .ok (.bool (blt a b)) w := by simp [go_sem, blt]
theorem run_leS {t : TypeId} {a b : ByteArray} (w : World) : (binOp .leq t (.string a) (.string b)).run P w = .ok (.bool (!blt b a)) w := by
  rw [← blt_or_eq]; simp [binOp, Op.stringOp, blt, beq_str]
theorem run_gtS {t : TypeId} {a b : ByteArray} (w : World) : (binOp .gtr t (.string a) (.string b)).run P w = .ok (.bool (blt b a)) w := by
  rw [show blt b a = !(!blt b a) by simp, ← blt_or_eq]; simp [binOp, Op.stringOp, blt, beq_str]
theorem run_geS {t : TypeId} {a b : ByteArray} (w : World) : (binOp .geq t (.string a) (.string b)).run P w = .ok (.bool (!blt a b)) w := by simp [binOp, Op.stringOp, blt]
theorem run_eqS {t : TypeId} {x y : Operand} {a b : ByteArray} (w : World) : (eqE .eql t x y (.string a) (.string b)).run P w = .ok (.bool (decide (a = b))) w := by simp [eqE, go_sem, beq_str]
theorem run_neS {t : TypeId} {x y : Operand} {a b : ByteArray} (w : World) : (eqE .neq t x y (.string a) (.string b)).run P w = .ok (.bool (!decide (a = b))) w := by simp [eqE, go_sem, beq_str]
theorem run_eqI {t : TypeId} {x y : Operand} {kk : IntKind} {a b : Int} (w : World) : (eqE .eql t x y (.int kk a) (.int kk b)).run P w = .ok (.bool (decide (a = b))) w := by simp [eqE, go_sem]; rfl
theorem run_neI {t : TypeId} {x y : Operand} {kk : IntKind} {a b : Int} (w : World) : (eqE .neq t x y (.int kk a) (.int kk b)).run P w = .ok (.bool (!decide (a = b))) w := by simp [eqE, go_sem, bne]; rfl
theorem run_lt {t : TypeId} {kk : IntKind} {a b : Int} (w : World) : (binOp .lss t (.int kk a) (.int kk b)).run P w = .ok (.bool (decide (a < b))) w := by simp [go_sem]
theorem run_le {t : TypeId} {kk : IntKind} {a b : Int} (w : World) : (binOp .leq t (.int kk a) (.int kk b)).run P w = .ok (.bool (decide (a ≤ b))) w := by simp [go_sem]
theorem run_gt {t : TypeId} {kk : IntKind} {a b : Int} (w : World) : (binOp .gtr t (.int kk a) (.int kk b)).run P w = .ok (.bool (decide (b < a))) w := by simp [go_sem]
theorem run_ge {t : TypeId} {kk : IntKind} {a b : Int} (w : World) : (binOp .geq t (.int kk a) (.int kk b)).run P w = .ok (.bool (decide (b ≤ a))) w := by simp [go_sem]
theorem run_add {t : TypeId} {a b : Int} (h1 : -9223372036854775808 ≤ a + b) (h2 : a + b ≤ 9223372036854775807) (w : World) : (binOp .add t (.int .i64 a) (.int .i64 b)).run P w = .ok (.int .i64 (a + b)) w := by
  rw [binOp_add]; simp only [Op.intArith, Sem.run_pure, wrap_i64 h1 h2]
theorem run_sub {t : TypeId} {a b : Int} (h1 : -9223372036854775808 ≤ a - b) (h2 : a - b ≤ 9223372036854775807) (w : World) : (binOp .sub t (.int .i64 a) (.int .i64 b)).run P w = .ok (.int .i64 (a - b)) w := by
  rw [binOp_sub]; simp only [Op.intArith, Sem.run_pure, wrap_i64 h1 h2]
theorem run_not {b : Bool} (w : World) : (Op.unary .not (.bool b)).run P w = .ok (.bool (!b)) w := by simp [Op.unary]
/-- one step, by its run -/
theorem does_of {α : Type} {s : Sem α} {v : α} {w' : World} {k : α → World → Prop} (h : s.run P w = .ok v w') (hk : k v w') : Does P s w k := ⟨v, w', h, hk⟩
theorem q_of {C : World → Prop} {s : Sem Value} {v : Value} (h : ∀ W, s.run P W = .ok v W) (hk : k v w) : Quiet P C s w k := ⟨v, fun W _ => h W, hk⟩
theorem q_index {w0 : World} {v : Value} {xs : List Value} {t e : TypeId} {kk : IntKind} {i : Nat} (h : Row w0 v xs) (ht : P.underlying t = some (.slice e)) (hs : ∀ w, (sizeOf e).run P w = .ok 1 w) (hi : i < xs.length)
    (hk : ∀ p, w0.cell? p = some xs[i] → k (.pointer (some p)) w) : Quiet P (Ext w0) (Instr.indexAt t v (.int kk i)) w k := by
  obtain ⟨a, c, rfl, hl, hc⟩ := h
  obtain ⟨ad, rfl, hcell⟩ := hc i xs[i] (by simp [hi])
  have he : P.elem t = e := by simp [Program.elem, ht]
  refine ⟨.pointer (some (ad.add i)), fun W _ => ?_, hk _ hcell⟩
  rw [run_indexAt_slice (h := by rw [he]; exact ht), if_pos ⟨by omega, by omega⟩, he, hs]
  simp only [Result.andThen_ok, Nat.mul_one, Int.toNat_natCast]
theorem run_load1 {t : TypeId} {p : Addr} {x : Value} {w : World} (ha : ∀ w, (isAgg t).run P w = .ok false w) (hc : w.cell? p = some x) : (Instr.loadAt t (.pointer (some p))).run P w = .ok x w := by
  simp [Instr.loadAt, Instr.sureAddr, loadVar, ha, go_sem, hc]
theorem q_load {w0 : World} {t : TypeId} {p : Addr} {x : Value} (ha : ∀ w, (isAgg t).run P w = .ok false w) (hc : w0.cell? p = some x) (hk : k x w) : Quiet P (Ext w0) (Instr.loadAt t (.pointer (some p))) w k :=
  ⟨x, fun W hW => run_load1 ha (hW.cell hc), hk⟩
theorem q_len {C : World → Prop} {t ty e : TypeId} {w0 : World} {v : Value} {xs : List Value} (h : Row w0 v xs) (ht : P.underlying t = some (.slice e)) (hk : k (.int .i64 xs.length) w) : Quiet P C (Builtin.len_ #[t] ty #[v]) w k := by
  obtain ⟨a, c, rfl, hl, _⟩ := h
  have he : P.elem t = e := by simp [Program.elem, ht]
  exact ⟨_, fun W _ => run_len_slice (h := by rw [he]; exact ht) .., hk⟩
end

/-! ### 9. making slices -/
section
variable {P : Program}
theorem run_buildSlice0 {t e : TypeId} (ht : P.underlying t = some (.slice e)) (hs : ∀ w, (sizeOf e).run P w = .ok 1 w) (w : World) :
    (Instr.buildSlice t 0 #[]).run P w = .ok (.slice (some ⟨w.heap.size, 0, none⟩) 0 0) (w.alloc (.cells #[] e)) := by
  simp [Instr.buildSlice, run_underlying ht, hs, go_sem, Instr.fill, newRow]
theorem run_buildSlice1 {t e : TypeId} {x z : Value} (ht : P.underlying t = some (.slice e)) (hs : ∀ w, (sizeOf e).run P w = .ok 1 w) (hz : ∀ w, (zeroValue e).run P w = .ok z w) (hzc : z.cells = #[z]) (hx : x.cells = #[x]) (w : World) :
    (Instr.buildSlice t 1 #[(0, x)]).run P w = .ok (.slice (some ⟨w.heap.size, 0, none⟩) 1 1) (w.alloc (.cells #[x] e)) := by
  have h1 : Array.range 1 = #[0] := rfl
  simp [Instr.buildSlice, run_underlying ht, hs, hz, Instr.fill, hx, hzc, newRow, h1]
theorem own_empty {w : World} {base : Nat} (e : TypeId) (hb : base ≤ w.heap.size) : Own (w.alloc (.cells #[] e)) base e (.slice (some ⟨w.heap.size, 0, none⟩) 0 0) [] :=
  ⟨by simp, .inr ⟨w.heap.size, 0, #[], rfl, hb, heap_alloc_new w _, Nat.le_refl _, by simp [maxLen], by simp, by simp⟩⟩
theorem own_single {w : World} {base : Nat} (e : TypeId) (x : Value) (hb : base ≤ w.heap.size) : Own (w.alloc (.cells #[x] e)) base e (.slice (some ⟨w.heap.size, 0, none⟩) 1 1) [x] :=
  ⟨by simp, .inr ⟨w.heap.size, 1, #[x], rfl, hb, heap_alloc_new w _, Nat.le_refl _, by simp [maxLen], by simp, by simp⟩⟩
theorem run_eql_slice_nil' {t e : TypeId} {x y : Operand} {a : Option Addr} {n c : Nat} (ht : P.underlying t = some (.slice e)) (w : World) :
    (eqE .eql t x y (.slice a n c) (.slice none 0 0)).run P w = .ok (.bool a.isNone) w := by
  unfold eqE
  rw [eqGuard_at_slice]
  have he : P.elem t = e := by simp [Program.elem, ht]
  have := Lib.run_eql_slice_nil (P := P) w t e a n c 0 0 ht
  simpa using this
end

/-! ### 10. cutting, storing -/
theorem add_add' (a : Addr) (l j : Nat) (h : a.spot = none) : (a.add l).add j = a.add (l + j) := by
  unfold Addr.add
  by_cases hl : l = 0
  · subst hl; simp
  · by_cases hj : j = 0
    · subst hj; simp [hl]
    · simp [hl, hj]
      omega
theorem cell_spot {w : World} {a : Addr} {v : Value} (h : w.cell? a = some v) : a.spot = none := by
  unfold World.cell? at h
  split at h
  · split at h
    · cases h
    · rename_i hs; simpa using hs
  · cases h
theorem add_spot {a : Addr} {j : Nat} (h : (a.add j).spot = none) : a.spot = none ∨ 0 < j := by
  unfold Addr.add at h
  by_cases hj : j = 0
  · subst hj; simpa using h
  · right; omega
theorem sizeOf_elem {P : Program} {t e : TypeId} (ht : P.underlying t = some (.slice e)) : P.elem t = e := by simp [Program.elem, ht]
theorem run_sliceAt_of {P : Program} {t e : TypeId} (ht : P.underlying t = some (.slice e)) (x : Value) (lo hi mx : Option Value) (w : World) : (Instr.sliceAt t x lo hi mx).run P w = (Instr.slice t x lo hi mx).run P w := by
  have he := sizeOf_elem ht
  rw [run_sliceAt_slice (h := by rw [he]; exact ht)]
section
variable {P : Program} {w : World} {k : Value → World → Prop} {t e : TypeId}
/-- v[lo:] -/
theorem run_from {a : Option Addr} {n c l : Nat} {kk : IntKind} (ht : P.underlying t = some (.slice e)) (hs : ∀ w, (sizeOf e).run P w = .ok 1 w) (hl : l ≤ n) (w : World) :
    (Instr.sliceAt t (.slice a n c) (some (.int kk l)) none none).run P w = .ok (.slice (if c = l then a else a.map (·.add l)) (n - l) (c - l)) w := by
  have he := sizeOf_elem ht
  rw [run_sliceAt_of ht, run_slice_l w t a n c (by rw [he]; exact ht) kk l (by omega) (by omega), he, hs]
  simp [sliced]
/-- v[:hi] -/
theorem run_upto {a : Option Addr} {n c h : Nat} {kk : IntKind} (ht : P.underlying t = some (.slice e)) (hs : ∀ w, (sizeOf e).run P w = .ok 1 w) (hh : h ≤ c) (w : World) :
    (Instr.sliceAt t (.slice a n c) none (some (.int kk h)) none).run P w = .ok (.slice a h c) w := by
  have he := sizeOf_elem ht
  rw [run_sliceAt_of ht, run_slice_h w t a n c (by rw [he]; exact ht) kk h (by omega) (by omega), he, hs]
  simp [sliced]
  intro _
  cases a <;> simp [Addr.add]
/-- v[lo:hi] -/
theorem run_cut {a : Option Addr} {n c l h : Nat} {kl kh : IntKind} (ht : P.underlying t = some (.slice e)) (hs : ∀ w, (sizeOf e).run P w = .ok 1 w) (hl : l ≤ h) (hh : h ≤ c) (w : World) :
    (Instr.sliceAt t (.slice a n c) (some (.int kl l)) (some (.int kh h)) none).run P w = .ok (.slice (if c = l then a else a.map (·.add l)) (h - l) (c - l)) w := by
  have he := sizeOf_elem ht
  rw [run_sliceAt_of ht, run_slice_lh w t a n c (by rw [he]; exact ht) kl kh l h (by omega) (by omega) (by omega), he, hs]
  simp [sliced]
theorem row_cut {a : Option Addr} {xs : List Value} {c l h : Nat} (hr : Row w (.slice a xs.length c) xs) (hl : l ≤ h) (hh : h ≤ xs.length) : Row w (.slice (if c = l then a else a.map (·.add l)) (h - l) (c - l)) ((xs.take h).drop l) := by
  obtain ⟨a', c', hv, ⟨h1, h2⟩, hc⟩ := hr
  cases hv
  have hlen : ((xs.take h).drop l).length = h - l := by simp; omega
  refine ⟨_, _, by rw [hlen], ⟨by rw [hlen]; omega, by rw [hlen]; omega⟩, fun j x hj => ?_⟩
  have hj2 : j < h - l := by rw [← hlen]; exact (List.getElem?_eq_some_iff.1 hj).1
  have hx : xs[l + j]? = some x := by
    rw [List.getElem?_drop, List.getElem?_take] at hj
    rwa [if_pos (by omega)] at hj
  obtain ⟨ad, rfl, hcell⟩ := hc (l + j) x hx
  rw [if_neg (by omega)]
  refine ⟨_, rfl, ?_⟩
  have hsp : ad.spot = none := by
    have h0 : 0 < xs.length := by omega
    obtain ⟨ad', he, hc0⟩ := hc 0 xs[0] (by simp [h0])
    cases he
    have := cell_spot hc0
    simpa [Addr.add] using this
  rw [add_add' _ _ _ hsp]
  exact hcell
theorem Row.cut {w0 : World} {v : Value} {xs : List Value} {kl kh : IntKind} {l h : Nat} (hr : Row w0 v xs) (ht : P.underlying t = some (.slice e)) (hs : ∀ w, (sizeOf e).run P w = .ok 1 w) (hl : l ≤ h) (hh : h ≤ xs.length)
    (hk : ∀ v', Row w0 v' ((xs.take h).drop l) → k v' w) : Does P (Instr.sliceAt t v (some (.int kl l)) (some (.int kh h)) none) w k := by
  obtain ⟨a, c, rfl, hle, hc⟩ := id hr
  exact does_of (run_cut ht hs hl (by omega) w) (hk _ (row_cut hr hl hh))
theorem Row.from {w0 : World} {v : Value} {xs : List Value} {kl : IntKind} {l : Nat} (hr : Row w0 v xs) (ht : P.underlying t = some (.slice e)) (hs : ∀ w, (sizeOf e).run P w = .ok 1 w) (hl : l ≤ xs.length)
    (hk : ∀ v', Row w0 v' (xs.drop l) → k v' w) : Does P (Instr.sliceAt t v (some (.int kl l)) none none) w k := by
  obtain ⟨a, c, rfl, hle, hc⟩ := id hr
  refine does_of (run_from ht hs hl w) (hk _ ?_)
  have := row_cut hr hl (Nat.le_refl _)
  rwa [List.take_length] at this
theorem row_upto {a : Option Addr} {xs : List Value} {c h : Nat} (hr : Row w (.slice a xs.length c) xs) (hh : h ≤ xs.length) : Row w (.slice a h c) (xs.take h) := by
  obtain ⟨a', c', hv, ⟨h1, h2⟩, hc⟩ := hr
  cases hv
  have hlen : (xs.take h).length = h := by simp; omega
  refine ⟨_, _, by rw [hlen], ⟨by omega, by omega⟩, fun j x hj => hc j x ?_⟩
  rw [List.getElem?_take] at hj
  split at hj
  · exact hj
  · cases hj
theorem Row.upto {w0 : World} {v : Value} {xs : List Value} {kh : IntKind} {h : Nat} (hr : Row w0 v xs) (ht : P.underlying t = some (.slice e)) (hs : ∀ w, (sizeOf e).run P w = .ok 1 w) (hh : h ≤ xs.length)
    (hk : ∀ v', Row w0 v' (xs.take h) → k v' w) : Does P (Instr.sliceAt t v none (some (.int kh h)) none) w k := by
  obtain ⟨a, c, rfl, hle, hc⟩ := id hr
  exact does_of (run_upto ht hs (by omega) w) (hk _ (row_upto hr hh))
/-- an own row, cut at its end -/
theorem own_upto {base : Nat} {a : Option Addr} {xs : List Value} {c h : Nat} (ho : Own w base e (.slice a xs.length c) xs) (hh : h ≤ xs.length) : Own w base e (.slice a h c) (xs.take h) := by
  have hlen : (xs.take h).length = h := by simp; omega
  refine ⟨by simp, ?_⟩
  rcases ho.2 with ⟨hv, h0⟩ | ⟨g, cap, cur, hv, hb, hg, hn, hm, hsz, ht'⟩
  · have : h = 0 := by omega
    subst this
    refine .inl ?_
    simp only [Value.slice.injEq] at hv
    obtain ⟨rfl, _, rfl⟩ := hv
    simp
  · cases hv
    exact .inr ⟨g, c, cur, by rw [hlen], hb, hg, by omega, hm, hsz, by rw [← ht', List.take_take]; simp⟩
theorem Own.upto {base : Nat} {v : Value} {xs : List Value} {kh : IntKind} {h : Nat} (ho : Own w base e v xs) (ht : P.underlying t = some (.slice e)) (hs : ∀ w, (sizeOf e).run P w = .ok 1 w) (hh : h ≤ xs.length)
    (hk : ∀ v', Own w base e v' (xs.take h) → v'.ownBlock = v.ownBlock → k v' w) : Does P (Instr.sliceAt t v none (some (.int kh h)) none) w k := by
  obtain ⟨a, c, rfl, hle, hc⟩ := ho.row
  exact does_of (run_upto ht hs (by omega) w) (hk _ (own_upto ho hh) (by cases a <;> rfl))
/-- an element of an own row, by its place -/
theorem Own.indexAt {base : Nat} {v : Value} {xs : List Value} {kk : IntKind} {i : Nat} (ho : Own w base e v xs) (ht : P.underlying t = some (.slice e)) (hs : ∀ w, (sizeOf e).run P w = .ok 1 w) (hi : i < xs.length)
    (hk : ∀ g, v.ownBlock = some g → base ≤ g → w.cell? ⟨g, i, none⟩ = some xs[i] → k (.pointer (some ⟨g, i, none⟩)) w) : Does P (Instr.indexAt t v (.int kk i)) w k := by
  have hr := ho.row
  rcases ho.2 with ⟨rfl, h0⟩ | ⟨g, cap, cur, rfl, hb, hg, hn, hm, hsz, ht'⟩
  · omega
  · have he := sizeOf_elem ht
    have hadd : (⟨g, 0, none⟩ : Addr).add i = ⟨g, i, none⟩ := by unfold Addr.add; split <;> simp_all
    have hcell := World.ownsRow.cells ho (g := g) rfl i xs[i] (by simp [hi])
    rw [hadd] at hcell
    rw [does_eq, run_indexAt_slice (h := by rw [he]; exact ht), if_pos ⟨by omega, by omega⟩, he, hs]
    simp only [Result.andThen_ok, Nat.mul_one, Int.toNat_natCast, doesR_ok, hadd]
    exact hk g rfl hb hcell
theorem Own.setCell {base : Nat} {v x : Value} {xs : List Value} {g i : Nat} (ho : Own w base e v xs) (hg : v.ownBlock = some g) (hi : i < xs.length) : Own (w.setCell ⟨g, i, none⟩ x) base e v (xs.set i x) := by
  rcases ho.2 with ⟨rfl, h0⟩ | ⟨g', cap, cur, rfl, hb, hh, hn, hm, hsz, ht⟩
  · omega
  · have : g' = g := by simpa [Value.ownBlock] using hg
    subst this
    refine ⟨by simp, .inr ⟨g', cap, cur.setIfInBounds i x, by simp, hb, ?_, by simpa using hn, hm, by simpa using hsz, ?_⟩⟩
    · simp only [World.setCell, Array.getElem?_modify, if_true, hh, Option.map_some]
      rfl
    · rw [Array.toList_setIfInBounds, List.take_set]
      simp only [List.length_set]
      rw [ht]
theorem grownBy_setCell (w : World) (g i : Nat) (x : Value) : w.grownBy (w.setCell ⟨g, i, none⟩ x) (some g) :=
  ⟨rfl, rfl, rfl, by simp [World.setCell], fun k hk hne => Below.heap_setCell _ _ _ _ (fun h => hne (by rw [h]))⟩
theorem Own.notFrozen {base : Nat} {v : Value} {xs : List Value} {g i : Nat} (ho : Own w base e v xs) (hg : v.ownBlock = some g) : w.frozen? ⟨g, i, none⟩ = false := by
  rcases ho.2 with ⟨rfl, h0⟩ | ⟨g', cap, cur, rfl, hb, hh, _⟩
  · simp [Value.ownBlock] at hg
  · have : g' = g := by simpa [Value.ownBlock] using hg
    subst this
    simp [World.frozen?, hh]
theorem run_store1 {te : TypeId} {p : Addr} {u x : Value} {w : World} (hs : ∀ w, (sizeOf te).run P w = .ok 1 w) (hx : x.cells = #[x]) (h1 : x.oneCell' = true) (hc : w.cell? p = some u) (hf : w.frozen? p = false) :
    (Instr.storeAt te (.pointer (some p)) x).run P w = .ok () (w.setCell p x) := by
  have hst : (store p x).run P w = .ok () (w.setCell p x) := by rw [run_store P w p x _ h1, hc]; simp [hf]
  simp only [Instr.storeAt, Instr.sureAddr, Sem.run_bind, Sem.run_pure, Result.andThen_ok, storeVar, hx, hs]
  simp [storeCells, hst, go_sem]
end

/-! ### 11. make -/
theorem run_make0 {P : Program} {t e : TypeId} {z : Value} {bytes : Nat} (ht : P.underlying t = some (.slice e)) (hi : infoOf P e z bytes) (hz : z.cells.size = 1) (c : Nat) (hc : bytes * c ≤ 281474976710656) (hb : 0 < bytes) (w : World) :
    ∃ cur : Array Value, cur.size = c ∧ (Instr.makeSlice t (.int .i64 0) (.int .i64 c)).run P w = .ok (.slice (some ⟨w.heap.size, 0, none⟩) 0 c) (w.alloc (.cells cur e)) := by
  obtain ⟨i0, hi0, hzz⟩ := Option.map_eq_some_iff.1 hi
  simp only [Prod.mk.injEq] at hzz
  obtain ⟨hz0, hz1, hz2⟩ := hzz
  have hcb : c ≤ 281474976710656 := Nat.le_trans (Nat.le_mul_of_pos_left _ hb) hc
  have hw : IntKind.i64.wrap (c : Int) = c := wrap_i64 (by omega) (by omega)
  have hw0 : IntKind.i64.wrap 0 = 0 := wrap_i64 (by omega) (by omega)
  have hbig : ¬ ((i0.bytes : Int) * (c : Int) > 2 ^ 48) := by
    rw [hz2, ← Int.natCast_mul]
    omega
  have hbig0 : ¬ ((i0.bytes : Int) * (0 : Int) > 2 ^ 48) := by simp
  by_cases h0 : c = 0
  · subst h0
    refine ⟨#[], rfl, ?_⟩
    simp [Instr.makeSlice, run_underlying ht, asInt, asIntOf, sizeOf, typeInfo, hi0, hz1, hw0, newRow, show Array.range 0 = #[] from rfl]
  · have hcn : ¬ ((c : Int) < 0) := by omega
    refine ⟨(Array.range c).map (fun x => z.cells[x % z.cells.size]!), by simp, ?_⟩
    simp only [Instr.makeSlice, run_underlying ht, asInt, asIntOf, sizeOf, typeInfo, hi0, hz1, newRow, Sem.run_bind, Result.andThen_ok, Sem.run_pure, hw, hw0]
    have hbig' : ¬ (281474976710656 < (i0.bytes : Int) * (c : Int)) := by simpa using hbig
    have hzv : ∀ w, (zeroValue e).run P w = .ok z w := by intro w; simp [zeroValue, typeInfo, hi0, hz0]
    simp [hi0, hz1, hbig', hcn, h0, hzv, hz]

/-! ### 12. facts that stay, for drawn regions; one row that turns -/
theorem FSt.row (xs : List Value) : FSt Ext fun v W => Row W v xs := fun _ _ _ hE h => h.ext hE
theorem FSt.own (b : Nat) (e : TypeId) (xs : List Value) : FSt Ext fun v W => Own W b e v xs := fun _ _ _ hE h => h.ext hE
theorem Does.and {P : Program} {α : Type} {s : Sem α} {w : World} {k : α → World → Prop} (h : Does P s w k) : Does P s w fun v w' => k v w' := h
/-- Only the block 'row' of what was there has turned. -/
def Mod (row : Option Nat) (w w' : World) : Prop := w.grownBy w' row
theorem Mod.refl (row : Option Nat) (w : World) : Mod row w w := ⟨rfl, rfl, rfl, Nat.le_refl _, fun _ _ _ => rfl⟩
theorem Mod.trans {row : Option Nat} {a b c : World} (h : Mod row a b) (k : Mod row b c) : Mod row a c :=
  ⟨k.os.trans h.os, k.tape.trans h.tape, k.output.trans h.output, Nat.le_trans h.size k.size, fun i hi hne => (k.block i (Nat.lt_of_lt_of_le hi h.size) hne).trans (h.block i hi hne)⟩
theorem Mod.ofExt {row : Option Nat} {a b : World} (h : Ext a b) : Mod row a b := ⟨h.os, h.tape, h.output, h.size, fun i hi _ => Below.block h i hi⟩
theorem Mod.setCell (w : World) (g i : Nat) (x : Value) : Mod (some g) w (w.setCell ⟨g, i, none⟩ x) := grownBy_setCell w g i x
theorem Mod.ext {row : Option Nat} {w0 w w' : World} (h : Ext w0 w) (hm : Mod row w w') (hr : ∀ k, row = some k → w0.heap.size ≤ k) : Ext w0 w' := h.grown hm hr
theorem Mod.none_ext {w w' : World} (h : Mod none w w') : Ext w w' := Ext.ofGrownNone h
theorem Mod.own {row : Option Nat} {w w' : World} {base : Nat} {e : TypeId} {v : Value} {xs : List Value} (h : Mod row w w') (ho : Own w base e v xs) (hne : v.ownBlock = none ∨ v.ownBlock ≠ row) : Own w' base e v xs := ho.kept h hne
theorem Mod.cell {row : Option Nat} {w w' : World} {a : Addr} {v : Value} (h : Mod row w w') (hc : w.cell? a = some v) (hne : some a.block ≠ row) : w'.cell? a = some v := World.grownBy.cell h hc hne

/-! ### 13. where ways meet again -/
theorem join0 {X : VF 0 → Prop} {J : VF 0} (A : World → Prop) (hJ : ∀  w, A  w → J  w) (hX : ∀ j : VF 0, (∀  w, A  w → j  w) → X j) : JoinP 0 X J := hX J hJ
theorem join1 {X : VF 1 → Prop} {J : VF 1} (A : Value → World → Prop) (hJ : ∀ a0 w, A a0 w → J a0 w) (hX : ∀ j : VF 1, (∀ a0 w, A a0 w → j a0 w) → X j) : JoinP 1 X J := hX J hJ
theorem join2 {X : VF 2 → Prop} {J : VF 2} (A : Value → Value → World → Prop) (hJ : ∀ a0 a1 w, A a0 a1 w → J a0 a1 w) (hX : ∀ j : VF 2, (∀ a0 a1 w, A a0 a1 w → j a0 a1 w) → X j) : JoinP 2 X J := hX J hJ
theorem join3 {X : VF 3 → Prop} {J : VF 3} (A : Value → Value → Value → World → Prop) (hJ : ∀ a0 a1 a2 w, A a0 a1 a2 w → J a0 a1 a2 w) (hX : ∀ j : VF 3, (∀ a0 a1 a2 w, A a0 a1 a2 w → j a0 a1 a2 w) → X j) : JoinP 3 X J := hX J hJ
theorem join4 {X : VF 4 → Prop} {J : VF 4} (A : Value → Value → Value → Value → World → Prop) (hJ : ∀ a0 a1 a2 a3 w, A a0 a1 a2 a3 w → J a0 a1 a2 a3 w) (hX : ∀ j : VF 4, (∀ a0 a1 a2 a3 w, A a0 a1 a2 a3 w → j a0 a1 a2 a3 w) → X j) : JoinP 4 X J := hX J hJ
theorem join5 {X : VF 5 → Prop} {J : VF 5} (A : Value → Value → Value → Value → Value → World → Prop) (hJ : ∀ a0 a1 a2 a3 a4 w, A a0 a1 a2 a3 a4 w → J a0 a1 a2 a3 a4 w) (hX : ∀ j : VF 5, (∀ a0 a1 a2 a3 a4 w, A a0 a1 a2 a3 a4 w → j a0 a1 a2 a3 a4 w) → X j) : JoinP 5 X J := hX J hJ
theorem join6 {X : VF 6 → Prop} {J : VF 6} (A : Value → Value → Value → Value → Value → Value → World → Prop) (hJ : ∀ a0 a1 a2 a3 a4 a5 w, A a0 a1 a2 a3 a4 a5 w → J a0 a1 a2 a3 a4 a5 w) (hX : ∀ j : VF 6, (∀ a0 a1 a2 a3 a4 a5 w, A a0 a1 a2 a3 a4 a5 w → j a0 a1 a2 a3 a4 a5 w) → X j) : JoinP 6 X J := hX J hJ
theorem guardP_of {b c : Bool} {x y : Prop} (hx : b = c → x) (hy : b ≠ c → y) : GuardP (.bool b) c x y :=
  ⟨(fun h => hx (by injection h)), fun h => hy (fun hh => h (by rw [hh]))⟩

/-! ### 14. '&&' and '||' -/
theorem and_join {b1 : Bool} {X : VF 1 → Prop} {K : Value → World → Prop} {w1 : World} (b2 : Bool) (hX : b1 = true → ∀ j : VF 1, j (.bool b2) w1 → X j) (hK : K (.bool (b1 && b2)) w1) :
    JoinP 1 (fun j => GuardP (.bool b1) true (X j) (j undef w1)) (fun t w => ∀ _ : Nat → Value, PickP (.bool b1) t (.bool false) fun u => K u w) := by
  unfold JoinP
  refine guardP_of (fun h => ?_) fun h => ?_
  · subst h
    exact hX rfl _ fun _ => by rw [pickP_true]; exact hK
  · have : b1 = false := by cases b1 <;> simp_all
    subst this
    intro _
    rw [pickP_false]
    exact hK
theorem or_join {b1 : Bool} {X : VF 1 → Prop} {K : Value → World → Prop} {w1 : World} (b2 : Bool) (hX : b1 = false → ∀ j : VF 1, j (.bool b2) w1 → X j) (hK : K (.bool (b1 || b2)) w1) :
    JoinP 1 (fun j => GuardP (.bool b1) false (X j) (j undef w1)) (fun t w => ∀ _ : Nat → Value, PickP (.bool b1) (.bool true) t fun u => K u w) := by
  unfold JoinP
  refine guardP_of (fun h => ?_) fun h => ?_
  · subst h
    exact hX rfl _ fun _ => by rw [pickP_false]; exact hK
  · have : b1 = true := by cases b1 <;> simp_all
    subst this
    intro _
    rw [pickP_true]
    exact hK
/-- the same where the second part's operations turn the world -/
theorem and_joinW {b1 : Bool} {X : VF 1 → Prop} {K : Value → World → Prop} {w1 : World} (A : World → Prop) (b2 : Bool) (h0 : A w1) (hX : b1 = true → ∀ j : VF 1, (∀ w, A w → j (.bool b2) w) → X j) (hK : ∀ w, A w → K (.bool (b1 && b2)) w) :
    JoinP 1 (fun j => GuardP (.bool b1) true (X j) (j undef w1)) (fun t w => ∀ _ : Nat → Value, PickP (.bool b1) t (.bool false) fun u => K u w) := by
  unfold JoinP
  refine guardP_of (fun h => ?_) fun h => ?_
  · subst h
    exact hX rfl _ fun w hw _ => by rw [pickP_true]; exact hK w hw
  · have : b1 = false := by cases b1 <;> simp_all
    subst this
    intro _
    rw [pickP_false]
    exact hK _ h0
theorem or_joinW {b1 : Bool} {X : VF 1 → Prop} {K : Value → World → Prop} {w1 : World} (A : World → Prop) (b2 : Bool) (h0 : A w1) (hX : b1 = false → ∀ j : VF 1, (∀ w, A w → j (.bool b2) w) → X j) (hK : ∀ w, A w → K (.bool (b1 || b2)) w) :
    JoinP 1 (fun j => GuardP (.bool b1) false (X j) (j undef w1)) (fun t w => ∀ _ : Nat → Value, PickP (.bool b1) (.bool true) t fun u => K u w) := by
  unfold JoinP
  refine guardP_of (fun h => ?_) fun h => ?_
  · subst h
    exact hX rfl _ fun w hw _ => by rw [pickP_false]; exact hK w hw
  · have : b1 = true := by cases b1 <;> simp_all
    subst this
    intro _
    rw [pickP_true]
    exact hK _ h0

/-! ### 15. append to a full slice copies -/
theorem append_full {P : Program} {w : World} {k : Value → World → Prop} {t ty e : TypeId} {z : Value} {bytes n : Nat} {a : Option Addr} {x : Value} {xs ys : List Value} (ht : P.underlying t = some (.slice e)) (hi : infoOf P e z bytes) (hz : z.cells.size = 1)
    (hv : Row w (.slice a n n) xs) (hr : Row w x ys) (hb : (xs.length + ys.length) * bytes ≤ 140737488355328) (hb0 : 0 < bytes)
    (h0 : ys = [] → k (.slice a n n) w) (hk : ∀ v' w', Own w' w.heap.size e v' (xs ++ ys) → Ext w w' → k v' w') : Does P (Builtin.append_ #[t, t] ty #[.slice a n n, x]) w k := by
  obtain ⟨i0, hi0, hzz⟩ := Option.map_eq_some_iff.1 hi
  simp only [Prod.mk.injEq] at hzz
  obtain ⟨hz0, hz1, hz2⟩ := hzz
  obtain ⟨xa, c, rfl, ⟨hl1, hl2⟩, hc⟩ := hr
  obtain ⟨va, vc, hve, ⟨hv1, hv2⟩, hvc⟩ := hv
  simp only [Value.slice.injEq] at hve
  obtain ⟨rfl, rfl, rfl⟩ := hve
  have hle : xs.length + ys.length ≤ 140737488355328 := Nat.le_trans (Nat.le_mul_of_pos_right _ hb0) hb
  by_cases hy : ys = []
  · have hrun : (Builtin.append_ #[t, t] ty #[.slice a xs.length xs.length, .slice xa ys.length c]).run P w = .ok (.slice a xs.length xs.length) w := by
      subst hy
      cases a <;> cases xa <;> simp [Builtin.append_, run_underlying ht, sizeOf, typeInfo, hi0, hz1, Builtin.lenOf, Builtin.firstCells, storeCells, loadCells, loadCellsFrom]
    exact does_of hrun (h0 hy)
  · have hpos : 0 < ys.length := by cases ys <;> simp_all
    obtain ⟨ad, rfl, _⟩ := hc 0 ys[0] (by simp [hpos])
    have hnews : ∀ j u, ys[j]? = some u → w.cell? (ad.add j) = some u := fun j u hj => by obtain ⟨ad', h1, h2⟩ := hc j u hj; cases h1; exact h2
    have hge := grownCap_ge w (xs.length + ys.length) xs.length e
    have hcm : grownCap w (xs.length + ys.length) xs.length e ≤ maxLen := grownCap_le_maxLen w _ xs.length e (by simp only [maxLen]; omega)
    cases a with
    | some va =>
      have hrun := run_append_grow (P := P) w t ty e i0 z ht hi0 hz0 va xs.length xs.length xs (by rw [hz1, Nat.mul_one]) (fun j u hj => by obtain ⟨ad', h1, h2⟩ := hvc j u hj; cases h1; exact h2) ad ys.length c ys (by rw [hz1, Nat.mul_one]) hnews (by omega) (by omega) (growslice_fits (by omega) (by rw [hz2]; exact hb))
      refine does_of hrun (hk _ _ ⟨by simp, .inr ⟨w.heap.size, _, _, by rw [List.length_append], Nat.le_refl _, heap_alloc_new w.drew _, by simpa using hge, hcm, ?_, ?_⟩⟩ ((Ext.refl w).drew.alloc _))
      · simp [size_zeroCells, hz]; omega
      · simp only [Nat.mul_one, Array.toList_append, List.append_assoc]
        rw [← List.append_assoc]
        exact List.take_left
    | none =>
      have hx : xs = [] := by
        cases xs with
        | nil => rfl
        | cons y l => obtain ⟨ad', h1, _⟩ := hvc 0 y rfl; cases h1
      subst hx
      have hrun := run_append_nil (P := P) w t ty e i0 z ht hi0 hz0 ad ys.length c ys (by rw [hz1, Nat.mul_one]) hnews hpos (by omega) (by rw [hz2]; simp at hb; omega)
      have hge' := grownCap_ge w ys.length 0 e
      have hcm' : grownCap w ys.length 0 e ≤ maxLen := grownCap_le_maxLen w _ 0 e (by simp only [maxLen]; omega)
      refine does_of hrun (hk _ _ ⟨by simp, .inr ⟨w.heap.size, _, _, by simp, Nat.le_refl _, heap_alloc_new w.drew _, by simpa using hge', hcm', ?_, ?_⟩⟩ ((Ext.refl w).drew.alloc _))
      · simp [size_zeroCells, hz]; omega
      · simp only [Nat.mul_one, Array.toList_append, List.nil_append]
        exact List.take_left
/-- worlds where nothing below B has turned -/
def Grow (B : Nat) (a b : World) : Prop := (B ≤ a.heap.size → Below B a b) ∧ a.heap.size ≤ b.heap.size
theorem Grow.refl (B : Nat) (a : World) : Grow B a a := ⟨fun _ => Below.refl _ _, Nat.le_refl _⟩
theorem Grow.trans {B : Nat} {a b c : World} (h : Grow B a b) (k : Grow B b c) : Grow B a c := ⟨fun hB => (h.1 hB).trans (k.1 (Nat.le_trans hB h.2)), Nat.le_trans h.2 k.2⟩
theorem Grow.ofExt {B : Nat} {a b : World} (h : Ext a b) : Grow B a b := ⟨fun hB => h.below hB, h.size⟩
theorem Grow.ofMod {B : Nat} {row : Option Nat} {a b : World} (h : Mod row a b) (hr : ∀ k, row = some k → B ≤ k) : Grow B a b :=
  ⟨fun hB => ⟨h.os, h.tape, h.output, h.size, fun i hi => h.block i (by omega) (fun e => by have := hr i e.symm; omega)⟩, h.size⟩
end Go.Proofs.Ytcncgkkilgmphaa
