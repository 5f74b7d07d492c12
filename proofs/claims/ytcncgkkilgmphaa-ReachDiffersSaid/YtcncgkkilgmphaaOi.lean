/-
  Contract: obj.Encode.
  Contract: marref6.Obj.Encode.
-/
import Derived.Test.YtcncgkkilgmphaaOg
set_option linter.unusedVariables false
set_option linter.unusedSimpArgs false
namespace Go.Proofs.Ytcncgkkilgmphaa
open Go Go.RowKit

def StK (w0 : World) (yb : Nat) (cs : Array Value) (t : TypeId) (k0 : Nat) (v : Value) (l : List UInt8) (k : Nat) (W : World) : Prop := Kp yb cs t W ∧ (k = k0 → OwnB w0 W v l)
theorem StK.ext {w0 : World} {yb : Nat} {cs : Array Value} {t : TypeId} {k0 : Nat} {v : Value} {l : List UInt8} {k : Nat} {W W' : World} (h : StK w0 yb cs t k0 v l k W) (hE : Ext W W') : StK w0 yb cs t k0 v l k W' := ⟨h.1.ext hE, fun hk => (h.2 hk).ext hE⟩
theorem enc1 {o : Ob} (hk : o.kind = 1) : enc o = [b8 o.kind] ++ o.data := by simp [enc, encT, hk]
theorem enc2 {o : Ob} (hk : o.kind = 2) : enc o = ([b8 o.kind] ++ putL o.items.length) ++ o.items.flatMap encI := by simp [enc, encT, hk]
theorem enc3 {o : Ob} (hk : o.kind = 3) : enc o = ((((([b8 o.kind] ++ rawL o.tree ++ [b8 o.parents.length]) ++ o.parents.flatMap rawL) ++ putL o.stamp.toNat) ++ putL o.author.toNat) ++ putL (bs o.msg).length) ++ bs o.msg := by simp [enc, encT, hk]
theorem flatMap_take_succ {α : Type} {f : α → List UInt8} {l : List α} {i : Nat} (h : i < l.length) : (l.take (i + 1)).flatMap f = (l.take i).flatMap f ++ f l[i] := by
  rw [List.take_succ_eq_append_getElem h, List.flatMap_append, List.flatMap_singleton]
theorem nz {n : Int} (h : 0 ≤ n) : Value.int .i64 n = .int .i64 ((n.toNat : Nat) : Int) := by rw [show ((n.toNat : Nat) : Int) = n by omega]
structure EncSt where
  v : Value
  i : Nat
theorem region43_12 {w1 W : World} {r : Value} {l : List UInt8} {yb : Nat} {x : It} {J : VF 1} (hE : Ext w1 W) (ho : OwnB w1 W r l) (hy : Kp yb (cellsI x).toArray 106 W) (hx : ItemOk x) (hl : l.length ≤ 1048576)
    (hJ : ∀ v W', Ext w1 W' → Kp yb (cellsI x).toArray 106 W' → OwnB w1 W' v (l ++ [b8 x.mode] ++ putL (bs x.name).length) → J v W') :
    DrawP Try.prog 93 (opsOf Try.f43 12) [4, 6] [r, .pointer (some ⟨yb, 0, none⟩)] [4] J W := by
  have hn := hx.2.1.2.2.1
  have hsp : (⟨yb, 0, none⟩ : Addr).spot = none := rfl
  have fI := fun W => run_fieldI_o hsp W
  refine h43_12 w1 (StK w1 yb (cellsI x).toArray 106 0 r l) (FrB 0 [b8 x.mode]) (FoB w1 1 (l ++ [b8 x.mode])) (FoB w1 2 (l ++ [b8 x.mode] ++ putL (bs x.name).length)) hE (FrB.st _ _) (FoB.st _ _ _) (FoB.st _ _ _) ⟨hy.ext (Ext.drawn W), fun _ => ho.ext (Ext.drawn W)⟩ ?_
  have ld0 : ∀ {hi : Nat} (W' : World), Stg w1 W (StK w1 yb (cellsI x).toArray 106 0 r l) 0 hi W' → (Instr.loadAt 3 (.pointer (some ⟨yb, 0, none⟩))).run Try.prog W' = .ok (.int .i64 x.mode) W' := fun W' h => by obtain ⟨_, k, _, _, hk, _⟩ := h; exact run_load1 agg_i64 (local_cells hk).1
  have ld1 : ∀ {hi : Nat} (W' : World), Stg w1 W (StK w1 yb (cellsI x).toArray 106 0 r l) 0 hi W' → (Instr.loadAt 9 (.pointer (some ((⟨yb, 0, none⟩ : Addr).add 1)))).run Try.prog W' = .ok (.string x.name) W' := fun W' h => by obtain ⟨_, k, _, _, hk, _⟩ := h; exact run_load1 agg_str (local_cells hk).2.1
  refine qx (fun W => (fI W).1) (qc ld0 (qx (run_conv35 _) (qx (fun W => (fI W).2.1) (qc ld1 (qx (run_lenStr _) ⟨?_, ?_, ?_, ?_⟩)))))
  · exact fun W1 hA hC => does_of (run_build1 _ W1) ⟨ext_one _ W1, hC.ext (ext_one _ W1), fun _ => (own_one _ W1).row⟩
  · intro t W1 hA hC hF
    refine (hC.2 rfl).appendR hA.2 (hF rfl) (by simp; omega) fun v2 W2 g1 g2 g3 => ⟨⟨g3.size, g2⟩, ⟨hC.1.mod g3 ((hC.2 rfl).ne hC.1 (by decide)), fun h => by cases h⟩, fun _ => g1, (by intros; first | omega | exact FoB.off (by omega) | exact FrB.off (by omega)), trivial⟩
  · intro t W1 hA hC hF
    refine (number_spec (by omega) (hF rfl) hA.2 (by simp; omega)).mono fun v2 W2 ⟨g1, g2, g3⟩ => ⟨⟨g3.size, g2⟩, ⟨hC.1.mod g3 ((hF rfl).ne hC.1 (by decide)), fun h => by cases h⟩, fun _ => g1, (by intros; first | omega | exact FoB.off (by omega) | exact FrB.off (by omega)), (by intros; first | omega | exact FoB.off (by omega) | exact FrB.off (by omega)), trivial⟩
  · exact fun t W1 hA hC hF => hJ t W1 hA.2 hC.1 (hF rfl)
theorem region43_13 {w1 W : World} {r : Value} {l : List UInt8} {yb : Nat} {x : It} {J : VF 1} (hE : Ext w1 W) (ho : OwnB w1 W r l) (hy : Kp yb (cellsI x).toArray 106 W) (hx : ItemOk x) (hl : l.length ≤ 1048576)
    (hJ : ∀ v W', Ext w1 W' → OwnB w1 W' v (l ++ bs x.name ++ rawL x.id) → J v W') :
    DrawP Try.prog 93 (opsOf Try.f43 13) [4, 6] [r, .pointer (some ⟨yb, 0, none⟩)] [4] J W := by
  have hn := hx.2.1.2.2.1
  have hsp : (⟨yb, 0, none⟩ : Addr).spot = none := rfl
  have fI := fun W => run_fieldI_o hsp W
  refine h43_13 w1 (StK w1 yb (cellsI x).toArray 106 0 r l) (FoB w1 1 (l ++ bs x.name)) (FoB w1 2 (l ++ bs x.name ++ rawL x.id)) hE (FoB.st _ _ _) (FoB.st _ _ _) ⟨hy.ext (Ext.drawn W), fun _ => ho.ext (Ext.drawn W)⟩ ?_
  have ld1 : ∀ {hi : Nat} (W' : World), Stg w1 W (StK w1 yb (cellsI x).toArray 106 0 r l) 0 hi W' → (Instr.loadAt 9 (.pointer (some ((⟨yb, 0, none⟩ : Addr).add 1)))).run Try.prog W' = .ok (.string x.name) W' := fun W' h => by obtain ⟨_, k, _, _, hk, _⟩ := h; exact run_load1 agg_str (local_cells hk).2.1
  have ld2 : ∀ {hi : Nat} (W' : World), Stg w1 W (StK w1 yb (cellsI x).toArray 106 0 r l) 0 hi W' → (Instr.loadAt 9 (.pointer (some ((⟨yb, 0, none⟩ : Addr).add 2)))).run Try.prog W' = .ok (.string x.id) W' := fun W' h => by obtain ⟨_, k, _, _, hk, _⟩ := h; exact run_load1 agg_str (local_cells hk).2.2
  refine qx (fun W => (fI W).2.1) (qc ld1 (qx (fun W => (fI W).2.2) (qc ld2 ⟨?_, ?_, ?_⟩)))
  · intro W1 hA hC
    refine (hC.2 rfl).appendS hA.2 (by rw [← bs_length]; omega) fun v2 W2 g1 g2 g3 => ⟨⟨g3.size, g2⟩, ⟨hC.1.mod g3 ((hC.2 rfl).ne hC.1 (by decide)), fun h => by cases h⟩, fun _ => g1, trivial⟩
  · intro t W1 hA hC hF
    refine (hash_spec (hF rfl) hA.2 hx.2.2 (by simp; omega)).mono fun v2 W2 ⟨g1, g2, g3⟩ => ⟨⟨g3.size, g2⟩, ⟨hC.1.mod g3 ((hF rfl).ne hC.1 (by decide)), fun h => by cases h⟩, fun _ => g1, (by intros; first | omega | exact FoB.off (by omega) | exact FrB.off (by omega)), trivial⟩
  · exact fun t W1 hA hC hF => hJ t W1 hA.2 (hF rfl)
theorem region43_16 {w1 W : World} {r dv iv pv : Value} {l : List UInt8} {b : Nat} {o : Ob} {J : VF 1} (hE : Ext w1 W) (hF : OFld w1 b dv iv pv o) (ho : OwnB w1 W r l) (ht : Valid o.tree) (hl : l.length ≤ 1048576)
    (hJ : ∀ v W', Ext w1 W' → OwnB w1 W' v (l ++ rawL o.tree ++ [b8 o.parents.length]) → J v W') :
    DrawP Try.prog 93 (opsOf Try.f43 16) [1, 4] [.pointer (some ⟨b, 0, none⟩), r] [4] J W := by
  have h32 := ht.raw.1
  refine h43_16 w1 (StB w1 0 r l) (FoB w1 1 (l ++ rawL o.tree)) (fun k v W' => k ≤ 1 → OwnB W W' v [b8 o.parents.length]) (FoB w1 2 (l ++ rawL o.tree ++ [b8 o.parents.length])) hE (FoB.st _ _ _) (fun k v W W' hE h hk => (h hk).ext hE) (FoB.st _ _ _) (fun _ => ho.ext (Ext.drawn W)) ?_
  have hb : ∀ {W'} {lo hi : Nat}, Stg w1 W (StB w1 0 r l) lo hi W' → OBlk W' b 72 dv iv pv o := fun h => hF.blk.ext h.1.2
  refine qx (fun W => (run_field_o b W).2.2.2.1) (qc (fun W' h => run_load1 agg_str (hb h).cell.2.2.2.1) (qx (fun W => (run_field_o b W).2.2.2.2.1) (qc (fun W' h => run_load1 agg_strsl (hb h).cell.2.2.2.2.1) (q_len hF.ob.pars u_strs ?_))))
  rw [strsV_length]
  refine qx (run_conv35 _) ⟨?_, ?_, ?_, ?_⟩
  · intro W1 hA hC
    refine (hash_spec (hC rfl) hA.2 ht (by omega)).mono fun v2 W2 ⟨g1, g2, g3⟩ => ⟨⟨g3.size, g2⟩, (fun h => by cases h), fun _ => g1, (fun v h hk => ?_), trivial⟩
    have h2 := h (by omega)
    refine Own.kept h2 g3 (.inr fun e => ?_)
    cases hv : v.ownBlock with
    | none => 
      rcases h2.2 with ⟨rfl, h0⟩ | ⟨g, cap, cur, rfl, _⟩
      · simp at h0
      · simp [Value.ownBlock] at hv
    | some g =>
      have q1 := (Own.lt h2 g hv).1
      have q2 := (Own.lt ho g (by rw [← e, hv])).2
      omega
  · exact fun k hk0 hk1 W1 hA hC => does_of (run_build1 _ W1) ⟨ext_one _ W1, hC.ext (ext_one _ W1), fun _ => Own.mono (own_one _ W1) hA.1⟩
  · intro t u W1 hA hC hF3 hF8
    refine (hF3 rfl).appendR hA.2 (hF8 (by omega)).row (by simp; omega) fun v2 W2 g1 g2 g3 => ⟨⟨g3.size, g2⟩, (fun h => by cases h), fun _ => g1, (by intros; first | omega | exact FoB.off (by omega) | exact FrB.off (by omega)), (by intros; first | omega | exact FoB.off (by omega) | exact FrB.off (by omega)), trivial⟩
  · exact fun t W1 hA hC hF => hJ t W1 hA.2 (hF rfl)
theorem region43_22 {w1 W : World} {r dv iv pv : Value} {l : List UInt8} {b : Nat} {o : Ob} {J : VF 1} (hE : Ext w1 W) (hF : OFld w1 b dv iv pv o) (ho : OwnB w1 W r l) (hs : 0 ≤ o.stamp ∧ o.stamp ≤ 1099511627776) (ha : 0 ≤ o.author ∧ o.author ≤ 255) (hm : (bs o.msg).length ≤ 200) (hl : l.length ≤ 1048576)
    (hJ : ∀ v W', Ext w1 W' → OwnB w1 W' v (l ++ putL o.stamp.toNat ++ putL o.author.toNat ++ putL (bs o.msg).length) → J v W') :
    DrawP Try.prog 93 (opsOf Try.f43 22) [1, 4] [.pointer (some ⟨b, 0, none⟩), r] [4] J W := by
  have p1 := put_length (n := o.stamp.toNat) (by omega)
  have p2 := put_length (n := o.author.toNat) (by omega)
  refine h43_22 w1 (StB w1 0 r l) (FoB w1 1 (l ++ putL o.stamp.toNat)) (FoB w1 2 (l ++ putL o.stamp.toNat ++ putL o.author.toNat)) (FoB w1 3 (l ++ putL o.stamp.toNat ++ putL o.author.toNat ++ putL (bs o.msg).length)) hE (FoB.st _ _ _) (FoB.st _ _ _) (FoB.st _ _ _) (fun _ => ho.ext (Ext.drawn W)) ?_
  have hb : ∀ {W'} {lo hi : Nat}, Stg w1 W (StB w1 0 r l) lo hi W' → OBlk W' b 72 dv iv pv o := fun h => hF.blk.ext h.1.2
  have f := fun W => run_field_o b W
  refine qx (fun W => (f W).2.2.2.2.2.1) (qc (fun W' h => run_load1 agg_i64 (hb h).cell.2.2.2.2.2.1) (qx (fun W => (f W).2.2.2.2.2.2.1) (qc (fun W' h => run_load1 agg_i64 (hb h).cell.2.2.2.2.2.2.1) (qx (fun W => (f W).2.2.2.2.2.2.2) (qc (fun W' h => run_load1 agg_str (hb h).cell.2.2.2.2.2.2.2.1) (qx (run_lenStr _) ⟨?_, ?_, ?_, ?_⟩))))))
  · intro W1 hA hC
    rw [nz hs.1]
    refine (number_spec (by omega) (hC rfl) hA.2 (by omega)).mono fun v2 W2 ⟨g1, g2, g3⟩ => ⟨⟨g3.size, g2⟩, (fun h => by cases h), fun _ => g1, trivial⟩
  · intro t W1 hA hC hF3
    rw [nz ha.1]
    refine (number_spec (by omega) (hF3 rfl) hA.2 (by simp; omega)).mono fun v2 W2 ⟨g1, g2, g3⟩ => ⟨⟨g3.size, g2⟩, (fun h => by cases h), fun _ => g1, (by intros; first | omega | exact FoB.off (by omega) | exact FrB.off (by omega)), trivial⟩
  · intro t W1 hA hC hF6
    refine (number_spec (by omega) (hF6 rfl) hA.2 (by simp; omega)).mono fun v2 W2 ⟨g1, g2, g3⟩ => ⟨⟨g3.size, g2⟩, (fun h => by cases h), fun _ => g1, (by intros; first | omega | exact FoB.off (by omega) | exact FrB.off (by omega)), (by intros; first | omega | exact FoB.off (by omega) | exact FrB.off (by omega)), trivial⟩
  · exact fun t W1 hA hC hF => hJ t W1 hA.2 (hF rfl)
/-- what Encode hands back -/
def EncR (w w' : World) (o : Ob) (r : Value) : Prop := Ext w w' ∧ ((May o ∧ ∃ s, r = .tuple #[s, .int .i64 0] ∧ OwnB w w' s (enc o)) ∨ (¬ May o ∧ r = .tuple #[.slice none 0 0, .int .i64 1]))
set_option maxHeartbeats 1000000 in
theorem encode_spec {w : World} {dv iv pv : Value} {o : Ob} (h : IsOb w dv iv pv o) (hM : Modest o) : Call Try.prog 43 #[ObV dv iv pv o] w fun r w' => EncR w w' o r := by
  apply vc43
  unfold V43
  refine box_o h fun w1 hE1 hF => does_of (run_load_o hF.ob hF.blk) ((may_spec hF.ob hM).mono fun u W ⟨hE2, hu⟩ => ?_)
  subst hu
  have hE : Ext w W := hE1.trans hE2
  have hFW := hF.ext hE2
  refine does_of (run_not W) (condP_of (fun hb => ⟨hE, .inr ⟨cd_false.1 (by simpa using hb), rfl⟩⟩) fun hok => ?_)
  have hmay : May o := cd_iff.1 (by simpa using hok)
  refine hFW.f0 (does_of (run_conv35 _ W) (does_of (run_build1 _ W) ?_))
  have hEa := ext_one (b8 o.kind) W
  have hoa : OwnB w1 (W.alloc (.cells #[u8V (b8 o.kind)] 5)) (.slice (some ⟨W.heap.size, 0, none⟩) 1 1) [b8 o.kind] := (own_one (b8 o.kind) W).back hE2
  generalize hWa : W.alloc (.cells #[u8V (b8 o.kind)] 5) = Wa at hEa hoa
  generalize (Value.slice (some ⟨W.heap.size, 0, none⟩) 1 1) = va at hoa
  have hE1a : Ext w1 Wa := hE2.trans hEa
  have hFa := hF.ext hE1a
  have fin : ∀ {s : Value} {W' : World}, Ext w1 W' → OwnB w1 W' s (enc o) → EncR w W' o (.tuple #[s, .int .i64 0]) := fun h1 h2 => ⟨hE1.trans h1, .inl ⟨hmay, _, rfl, h2.back hE1⟩⟩
  refine hFa.f0 (does_of (run_eqI Wa) (condP_of (fun hk => ?_) fun hk1 => ?_))
  · have hk : o.kind = 1 := by simpa using hk
    have hd : o.data.length ≤ 20000 := by
      rcases hmay with ⟨_, h, _⟩ | ⟨h, _⟩ | ⟨h, _⟩
      · exact h
      · omega
      · omega
    refine hFa.f1 (hoa.appendR hE1a hFa.ob.data (by simp only [List.length_cons, List.length_nil]; omega) fun v W' g1 g2 g3 => fin g2 ?_)
    rw [enc1 hk]
    exact g1
  have hk1 : o.kind ≠ 1 := by simpa using hk1
  refine does_of (run_eqI Wa) (condP_of (fun hk => ?_) fun hk2 => ?_)
  · have hk : o.kind = 2 := by simpa using hk
    have hio : ItemsOk o.items := by
      rcases hmay with ⟨h, _⟩ | ⟨_, _, h, _⟩ | ⟨h, _⟩
      · omega
      · exact h
      · omega
    have h256 := hio.2.2
    have p0 := put_length (n := o.items.length) (by omega)
    refine hFa.f2 (hFa.ob.items.len_o ((number_spec (by omega) hoa hE1a (by simp)).mono fun v Wb ⟨g1, g2, g3⟩ => ?_))
    have hFb := hF.ext g2
    refine hFb.f2 (hFb.ob.items.len_o ?_)
    refine rounds2 (σ := EncSt) (fun s => s.v) (fun s => .int .i64 s.i) (fun s W' => s.i ≤ o.items.length ∧ Ext w1 W' ∧ OwnB w1 W' s.v (([b8 o.kind] ++ putL o.items.length) ++ (o.items.take s.i).flatMap encI)) (fun s _ => o.items.length - s.i) ⟨v, 0⟩ rfl rfl ⟨Nat.zero_le _, g2, by simpa using g1⟩ ?_
    rintro next ⟨va, i⟩ Wc ⟨hi, hEc, hoc⟩ hnext _
    simp only at hi hoc ⊢
    refine does_lt (condP_of (fun hlt => ?_) fun hge => ?_)
    · have hlt' : i < o.items.length := by simpa using hlt
      obtain ⟨p, hp, hidx, c0, c1, c2⟩ := hF.ob.items.at_o (List.getElem?_eq_getElem hlt')
      have hx := hio.1 _ (List.getElem_mem hlt')
      have hlen := flat_le (l := o.items.take i) (f := encI) (K := 106) fun x hx => (encI_len (hio.1 x (List.mem_of_mem_take hx))).1
      have hlt2 : (o.items.take i).length = i := by simp; omega
      rw [hlt2] at hlen
      have hle := (encI_len hx).1
      refine does_of (hidx .i64 Wc) (does_of (run_loadI_o hp (hEc.cell c0) (hEc.cell c1) (hEc.cell c2)) (local_o fun Wd hEd hbd => ?_))
      refine region43_12 (hEc.trans hEd) (hoc.ext hEd) hbd hx (by simp only [List.length_append, List.length_cons, List.length_nil]; omega) fun v1 We hEe hKe hoe _ => ?_
      refine region43_13 hEe hoe hKe hx (by have := hx.2.1.2.2.1; have := put_length (n := (bs o.items[i].name).length) (by omega); simp only [List.length_append, List.length_cons, List.length_nil]; omega) fun v2 Wf hEf hof _ => ?_
      refine does_add (by omega) (by omega) (hnext ⟨v2, i + 1⟩ _ _ Wf rfl (by simp) ⟨hlt', hEf, ?_⟩ (by simp only; omega))
      simp only
      rw [flatMap_take_succ hlt', ← List.append_assoc]
      simpa [encI] using hof
    · have hie : i = o.items.length := by simp at hge; omega
      rw [hie, List.take_length] at hoc
      exact fin hEc (by rw [enc2 hk]; exact hoc)
  have hk2 : o.kind ≠ 2 := by simpa using hk2
  have hk : o.kind = 3 := by have := kind_range hmay; omega
  obtain ⟨ht, ⟨hp1, _, hp2⟩, hs1, hs2, ha1, ha2, hm⟩ : Valid o.tree ∧ ParentsOk o.parents ∧ 0 ≤ o.stamp ∧ o.stamp ≤ 1099511627776 ∧ 0 ≤ o.author ∧ o.author ≤ 255 ∧ MsgOk o.msg := by
    rcases hmay with ⟨h, _⟩ | ⟨h, _⟩ | ⟨_, _, _, h⟩
    · omega
    · omega
    · exact h
  have h32 := ht.raw.1
  refine region43_16 hE1a hF hoa ht (by simp) fun v Wb hEb hob _ => ?_
  have hFb := hF.ext hEb
  refine hFb.f4 (hFb.ob.pars.len u_strs ?_)
  rw [strsV_length]
  refine rounds2 (σ := EncSt) (fun s => s.v) (fun s => .int .i64 s.i) (fun s W' => s.i ≤ o.parents.length ∧ Ext w1 W' ∧ OwnB w1 W' s.v (([b8 o.kind] ++ rawL o.tree ++ [b8 o.parents.length]) ++ (o.parents.take s.i).flatMap rawL)) (fun s _ => o.parents.length - s.i) ⟨v, 0⟩ rfl rfl ⟨Nat.zero_le _, hEb, by simpa using hob⟩ ?_
  rintro next ⟨va, i⟩ Wc ⟨hi, hEc, hoc⟩ hnext _
  simp only at hi hoc ⊢
  have hlen := flat_le (l := o.parents.take i) (f := rawL) (K := 32) fun x hx => by rw [(hp1 x (List.mem_of_mem_take hx)).raw.1]; exact Nat.le_refl _
  have hlt2 : (o.parents.take i).length = i := by simp; omega
  rw [hlt2] at hlen
  refine does_lt (condP_of (fun hlt => ?_) fun hge => ?_)
  · have hlt' : i < o.parents.length := by simpa using hlt
    refine (hF.ob.pars.ext hEc).index u_strs sz_str (by simpa using hlt') fun p hp => does_load1 agg_str hp ?_
    rw [strsV_get hlt']
    refine (hash_spec hoc hEc (hp1 _ (List.getElem_mem hlt')) (by simp only [List.length_append, List.length_cons, List.length_nil]; omega)).mono fun v2 Wd ⟨g1, g2, g3⟩ => ?_
    refine does_add (by omega) (by omega) (hnext ⟨v2, i + 1⟩ _ _ Wd rfl (by simp) ⟨hlt', g2, ?_⟩ (by simp only; omega))
    simp only
    rw [flatMap_take_succ hlt', ← List.append_assoc]
    exact g1
  · have hie : i = o.parents.length := by simp at hge; omega
    rw [hie, List.take_length] at hoc
    refine region43_22 hEc hF hoc ⟨hs1, hs2⟩ ⟨ha1, ha2⟩ hm.2 (by rw [hie, List.take_length] at hlen; simp only [List.length_append, List.length_cons, List.length_nil]; omega) fun v2 Wd hEd hod _ => ?_
    have hFd := hF.ext hEd
    have p1 := put_length (n := o.stamp.toNat) (by omega)
    have p2 := put_length (n := o.author.toNat) (by omega)
    have p3 := put_length (n := (bs o.msg).length) (by have := hm.2; omega)
    have hm2 := hm.2
    rw [hie, List.take_length] at hlen
    refine hFd.f7 (hod.appendS hEd (by rw [← bs_length]; simp only [List.length_append, List.length_cons, List.length_nil]; omega) fun v3 We g1 g2 _ => fin g2 ?_)
    rw [enc3 hk]
    exact g1
end Go.Proofs.Ytcncgkkilgmphaa

set_option linter.unusedVariables false
set_option linter.unusedSimpArgs false
namespace Go.Proofs.Ytcncgkkilgmphaa
open Go Go.RowKit

theorem vac {n m : Nat} {p : Prop} (h : n ≠ m) : n = m → p := fun e => absurd e h
theorem region56_13 {w1 W : World} {r : Value} {l : List UInt8} {yb : Nat} {x : It} {J : VF 1} (hE : Ext w1 W) (ho : OwnB w1 W r l) (hy : Kp yb (cellsI x).toArray 87 W) (hx : ItemOk x) (hl : l.length ≤ 1048576)
    (hJ : ∀ v W', Ext w1 W' → Kp yb (cellsI x).toArray 87 W' → OwnB w1 W' v (l ++ [b8 x.mode] ++ putL (bs x.name).length ++ bs x.name) → J v W') :
    DrawP Try.prog 109 (opsOf Try.f56 13) [4, 6] [r, .pointer (some ⟨yb, 0, none⟩)] [4] J W := by
  have hn := hx.2.1.2.2.1
  have hsp : (⟨yb, 0, none⟩ : Addr).spot = none := rfl
  have fI := fun W => run_fieldI_r hsp W
  have hp := put_length (n := (bs x.name).length) (by omega)
  refine h56_13 w1 (StK w1 yb (cellsI x).toArray 87 0 r l) (FrB 0 [b8 x.mode]) (FoB w1 1 (l ++ [b8 x.mode])) (FrB 1 (putL (bs x.name).length)) (FoB w1 2 (l ++ [b8 x.mode] ++ putL (bs x.name).length)) (FoB w1 3 (l ++ [b8 x.mode] ++ putL (bs x.name).length ++ bs x.name)) hE (FrB.st _ _) (FoB.st _ _ _) (FrB.st _ _) (FoB.st _ _ _) (FoB.st _ _ _) ⟨hy.ext (Ext.drawn W), fun _ => ho.ext (Ext.drawn W)⟩ ?_
  have ld0 : ∀ {hi : Nat} (W' : World), Stg w1 W (StK w1 yb (cellsI x).toArray 87 0 r l) 0 hi W' → (Instr.loadAt 3 (.pointer (some ⟨yb, 0, none⟩))).run Try.prog W' = .ok (.int .i64 x.mode) W' := fun W' h => by obtain ⟨_, k, _, _, hk, _⟩ := h; exact run_load1 agg_i64 (local_cells hk).1
  have ld1 : ∀ {hi : Nat} (W' : World), Stg w1 W (StK w1 yb (cellsI x).toArray 87 0 r l) 0 hi W' → (Instr.loadAt 9 (.pointer (some ((⟨yb, 0, none⟩ : Addr).add 1)))).run Try.prog W' = .ok (.string x.name) W' := fun W' h => by obtain ⟨_, k, _, _, hk, _⟩ := h; exact run_load1 agg_str (local_cells hk).2.1
  refine qx (fun W => (fI W).1) (qc ld0 (qx (run_conv35 _) (qx (fun W => (fI W).2.1) (qc ld1 (qx (run_lenStr _) (qx (fun W => (fI W).2.1) (qc ld1 ⟨?_, ?_, ?_, ?_, ?_, ?_⟩)))))))
  · exact fun W1 hA hC => does_of (run_build1 _ W1) ⟨ext_one _ W1, hC.ext (ext_one _ W1), fun _ => (own_one _ W1).row⟩
  · intro t W1 hA hC hF
    refine (hC.2 rfl).appendR hA.2 (hF rfl) (by simp; omega) fun v2 W2 g1 g2 g3 => ⟨⟨g3.size, g2⟩, ⟨hC.1.mod g3 ((hC.2 rfl).ne hC.1 (by decide)), vac (by omega)⟩, fun _ => g1, (by intros; first | omega | exact FoB.off (by omega) | exact FrB.off (by omega)), trivial⟩
  · exact fun W1 hA hC => (num_spec (by omega)).mono fun v W2 ⟨g1, g2⟩ => ⟨g2, ⟨hC.1.ext g2, vac (by omega)⟩, fun _ => g1.row⟩
  · intro t u W1 hA hC hF hG
    refine (hF rfl).appendR hA.2 (hG rfl) (by simp; omega) fun v2 W2 g1 g2 g3 => ⟨⟨g3.size, g2⟩, ⟨hC.1.mod g3 ((hF rfl).ne hC.1 (by decide)), vac (by omega)⟩, fun _ => g1, (by intros; first | omega | exact FoB.off (by omega) | exact FrB.off (by omega)), (by intros; first | omega | exact FoB.off (by omega) | exact FrB.off (by omega)), (by intros; first | omega | exact FoB.off (by omega) | exact FrB.off (by omega)), trivial⟩
  · intro t W1 hA hC hF
    refine (hF rfl).appendS hA.2 (by rw [← bs_length]; simp; omega) fun v2 W2 g1 g2 g3 => ⟨⟨g3.size, g2⟩, ⟨hC.1.mod g3 ((hF rfl).ne hC.1 (by decide)), vac (by omega)⟩, fun _ => g1, (by intros; first | omega | exact FoB.off (by omega) | exact FrB.off (by omega)), (by intros; first | omega | exact FoB.off (by omega) | exact FrB.off (by omega)), (by intros; first | omega | exact FoB.off (by omega) | exact FrB.off (by omega)), (by intros; first | omega | exact FoB.off (by omega) | exact FrB.off (by omega)), trivial⟩
  · exact fun t W1 hA hC hF => hJ t W1 hA.2 hC.1 (hF rfl)
theorem OwnB.keep {w0 W W1 W2 : World} {v r : Value} {l m : List UInt8} (h : OwnB W W1 v l) (ho : OwnB w0 W r m) (hl : l ≠ []) (hm : Mod r.ownBlock W1 W2) : OwnB W W2 v l := by
  refine Own.kept h hm (.inr fun e => ?_)
  cases hv : v.ownBlock with
  | none =>
    rcases h.2 with ⟨rfl, h0⟩ | ⟨g, cap, cur, rfl, _⟩
    · simp at h0; exact hl h0
    · simp [Value.ownBlock] at hv
  | some g =>
    have q1 := (Own.lt h g hv).1
    have q2 := (Own.lt ho g (by rw [← e, hv])).2
    omega
theorem region56_16 {w1 W : World} {r dv iv pv : Value} {l : List UInt8} {b : Nat} {o : Ob} {J : VF 1} (hE : Ext w1 W) (hF : OFldR w1 b dv iv pv o) (ho : OwnB w1 W r l) (ht : Valid o.tree) (hl : l.length ≤ 1048576)
    (hJ : ∀ v W', Ext w1 W' → OwnB w1 W' v (l ++ rawL o.tree ++ [b8 o.parents.length]) → J v W') :
    DrawP Try.prog 109 (opsOf Try.f56 16) [1, 4] [.pointer (some ⟨b, 0, none⟩), r] [4] J W := by
  have h32 := ht.raw.1
  refine h56_16 w1 (StB w1 0 r l) (FrB 0 (rawL o.tree)) (FoB w1 1 (l ++ rawL o.tree)) (fun k v W' => k ≤ 1 → OwnB W W' v [b8 o.parents.length]) (FoB w1 2 (l ++ rawL o.tree ++ [b8 o.parents.length])) hE (FrB.st _ _) (FoB.st _ _ _) (fun k v W W' hE h hk => (h hk).ext hE) (FoB.st _ _ _) (fun _ => ho.ext (Ext.drawn W)) ?_
  have hb : ∀ {W'} {lo hi : Nat}, Stg w1 W (StB w1 0 r l) lo hi W' → OBlk W' b 38 dv iv pv o := fun h => hF.blk.ext h.1.2
  refine qx (fun W => (run_field_r b W).2.2.2.1) (qc (fun W' h => run_load1 agg_str (hb h).cell.2.2.2.1) (qx (fun W => (run_field_r b W).2.2.2.2.1) (qc (fun W' h => run_load1 agg_strsl (hb h).cell.2.2.2.2.1) (q_len hF.ob.pars u_strs ?_))))
  rw [strsV_length]
  refine qx (run_conv35 _) ⟨?_, ?_, ?_, ?_, ?_⟩
  · exact fun W1 hA hC => (raw_spec ht).mono fun v W2 ⟨g1, g2⟩ => ⟨g2, hC.ext g2, fun _ => g1.row⟩
  · intro t W1 hA hC hG
    refine (hC rfl).appendR hA.2 (hG rfl) (by omega) fun v2 W2 g1 g2 g3 => ⟨⟨g3.size, g2⟩, vac (by omega), fun _ => g1, (by intros; first | omega | exact FoB.off (by omega) | exact FrB.off (by omega)), (fun v h hk => (h (by omega)).keep ho (by simp) g3), trivial⟩
  · exact fun k hk0 hk1 W1 hA hC => does_of (run_build1 _ W1) ⟨ext_one _ W1, hC.ext (ext_one _ W1), fun _ => Own.mono (own_one _ W1) hA.1⟩
  · intro t u W1 hA hC hF3 hF8
    refine (hF3 rfl).appendR hA.2 (hF8 (by omega)).row (by simp; omega) fun v2 W2 g1 g2 g3 => ⟨⟨g3.size, g2⟩, vac (by omega), fun _ => g1, (by intros; first | omega | exact FoB.off (by omega) | exact FrB.off (by omega)), (by intros; first | omega | exact FoB.off (by omega) | exact FrB.off (by omega)), (by intros; first | omega | exact FoB.off (by omega) | exact FrB.off (by omega)), trivial⟩
  · exact fun t W1 hA hC hF => hJ t W1 hA.2 (hF rfl)
theorem region56_21 {w1 W : World} {r dv iv pv : Value} {l : List UInt8} {b : Nat} {o : Ob} {J : VF 1} (hE : Ext w1 W) (hF : OFldR w1 b dv iv pv o) (ho : OwnB w1 W r l) (hs : 0 ≤ o.stamp ∧ o.stamp ≤ 1099511627776) (ha : 0 ≤ o.author ∧ o.author ≤ 255) (hm : (bs o.msg).length ≤ 200) (hl : l.length ≤ 1048576)
    (hJ : ∀ v W', Ext w1 W' → OwnB w1 W' v (l ++ putL o.stamp.toNat ++ putL o.author.toNat ++ putL (bs o.msg).length) → J v W') :
    DrawP Try.prog 109 (opsOf Try.f56 21) [1, 4] [.pointer (some ⟨b, 0, none⟩), r] [4] J W := by
  have p1 := put_length (n := o.stamp.toNat) (by omega)
  have p2 := put_length (n := o.author.toNat) (by omega)
  have p3 := put_length (n := (bs o.msg).length) (by omega)
  refine h56_21 w1 (StB w1 0 r l) (FrB 0 (putL o.stamp.toNat)) (FoB w1 1 (l ++ putL o.stamp.toNat)) (FrB 1 (putL o.author.toNat)) (FoB w1 2 (l ++ putL o.stamp.toNat ++ putL o.author.toNat)) (FrB 2 (putL (bs o.msg).length)) (FoB w1 3 (l ++ putL o.stamp.toNat ++ putL o.author.toNat ++ putL (bs o.msg).length)) hE (FrB.st _ _) (FoB.st _ _ _) (FrB.st _ _) (FoB.st _ _ _) (FrB.st _ _) (FoB.st _ _ _) (fun _ => ho.ext (Ext.drawn W)) ?_
  have hb : ∀ {W'} {lo hi : Nat}, Stg w1 W (StB w1 0 r l) lo hi W' → OBlk W' b 38 dv iv pv o := fun h => hF.blk.ext h.1.2
  have f := fun W => run_field_r b W
  refine qx (fun W => (f W).2.2.2.2.2.1) (qc (fun W' h => run_load1 agg_i64 (hb h).cell.2.2.2.2.2.1) (qx (fun W => (f W).2.2.2.2.2.2.1) (qc (fun W' h => run_load1 agg_i64 (hb h).cell.2.2.2.2.2.2.1) (qx (fun W => (f W).2.2.2.2.2.2.2) (qc (fun W' h => run_load1 agg_str (hb h).cell.2.2.2.2.2.2.2.1) (qx (run_lenStr _) ⟨?_, ?_, ?_, ?_, ?_, ?_, ?_⟩))))))
  · intro W1 hA hC
    rw [nz hs.1]
    exact (num_spec (by omega)).mono fun v W2 ⟨g1, g2⟩ => ⟨g2, hC.ext g2, fun _ => g1.row⟩
  · intro t W1 hA hC hG
    exact (hC rfl).appendR hA.2 (hG rfl) (by omega) fun v2 W2 g1 g2 g3 => ⟨⟨g3.size, g2⟩, vac (by omega), fun _ => g1, (by intros; first | omega | exact FoB.off (by omega) | exact FrB.off (by omega)), trivial⟩
  · intro W1 hA hC
    rw [nz ha.1]
    exact (num_spec (by omega)).mono fun v W2 ⟨g1, g2⟩ => ⟨g2, hC.ext g2, fun _ => g1.row⟩
  · intro t u W1 hA hC hF3 hG
    exact (hF3 rfl).appendR hA.2 (hG rfl) (by simp only [List.length_append]; omega) fun v2 W2 g1 g2 g3 => ⟨⟨g3.size, g2⟩, vac (by omega), fun _ => g1, (by intros; first | omega | exact FoB.off (by omega) | exact FrB.off (by omega)), (by intros; first | omega | exact FoB.off (by omega) | exact FrB.off (by omega)), (by intros; first | omega | exact FoB.off (by omega) | exact FrB.off (by omega)), trivial⟩
  · exact fun W1 hA hC => (num_spec (by omega)).mono fun v W2 ⟨g1, g2⟩ => ⟨g2, hC.ext g2, fun _ => g1.row⟩
  · intro t u W1 hA hC hF3 hG
    exact (hF3 rfl).appendR hA.2 (hG rfl) (by simp only [List.length_append]; omega) fun v2 W2 g1 g2 g3 => ⟨⟨g3.size, g2⟩, vac (by omega), fun _ => g1, (by intros; first | omega | exact FoB.off (by omega) | exact FrB.off (by omega)), (by intros; first | omega | exact FoB.off (by omega) | exact FrB.off (by omega)), (by intros; first | omega | exact FoB.off (by omega) | exact FrB.off (by omega)), (by intros; first | omega | exact FoB.off (by omega) | exact FrB.off (by omega)), (by intros; first | omega | exact FoB.off (by omega) | exact FrB.off (by omega)), trivial⟩
  · exact fun t W1 hA hC hF => hJ t W1 hA.2 (hF rfl)
set_option maxHeartbeats 1000000 in
theorem rencode_spec {w : World} {dv iv pv : Value} {o : Ob} (h : IsOb w dv iv pv o) (hM : Modest o) : Call Try.prog 56 #[ObV dv iv pv o] w fun r w' => EncR w w' o r := by
  apply vc56
  unfold V56
  refine box_r h fun w1 hE1 hF => does_of (run_load_r hF.ob hF.blk) ((rmay_spec hF.ob hM).mono fun u W ⟨hE2, hu⟩ => ?_)
  subst hu
  have hE : Ext w W := hE1.trans hE2
  have hFW := hF.ext hE2
  refine does_of (run_not W) (condP_of (fun hb => ⟨hE, .inr ⟨cd_false.1 (by simpa using hb), rfl⟩⟩) fun hok => ?_)
  have hmay : May o := cd_iff.1 (by simpa using hok)
  refine hFW.f0 (does_of (run_conv35 _ W) (does_of (run_build1 _ W) ?_))
  have hEa := ext_one (b8 o.kind) W
  have hoa : OwnB w1 (W.alloc (.cells #[u8V (b8 o.kind)] 5)) (.slice (some ⟨W.heap.size, 0, none⟩) 1 1) [b8 o.kind] := (own_one (b8 o.kind) W).back hE2
  generalize hWa : W.alloc (.cells #[u8V (b8 o.kind)] 5) = Wa at hEa hoa
  generalize (Value.slice (some ⟨W.heap.size, 0, none⟩) 1 1) = va at hoa
  have hE1a : Ext w1 Wa := hE2.trans hEa
  have hFa := hF.ext hE1a
  have fin : ∀ {s : Value} {W' : World}, Ext w1 W' → OwnB w1 W' s (enc o) → EncR w W' o (.tuple #[s, .int .i64 0]) := fun h1 h2 => ⟨hE1.trans h1, .inl ⟨hmay, _, rfl, h2.back hE1⟩⟩
  refine hFa.f0 (does_of (run_eqI Wa) (condP_of (fun hk => ?_) fun hk1 => ?_))
  · have hk : o.kind = 1 := by simpa using hk
    have hd : o.data.length ≤ 20000 := by
      rcases hmay with ⟨_, h, _⟩ | ⟨h, _⟩ | ⟨h, _⟩
      · exact h
      · omega
      · omega
    refine hFa.f1 (hoa.appendR hE1a hFa.ob.data (by simp only [List.length_cons, List.length_nil]; omega) fun v W' g1 g2 g3 => fin g2 ?_)
    rw [enc1 hk]
    exact g1
  have hk1 : o.kind ≠ 1 := by simpa using hk1
  refine does_of (run_eqI Wa) (condP_of (fun hk => ?_) fun hk2 => ?_)
  · have hk : o.kind = 2 := by simpa using hk
    have hio : ItemsOk o.items := by
      rcases hmay with ⟨h, _⟩ | ⟨_, _, h, _⟩ | ⟨h, _⟩
      · omega
      · exact h
      · omega
    have h256 := hio.2.2
    have p0 := put_length (n := o.items.length) (by omega)
    refine hFa.f2 (hFa.ob.items.len_r ((num_spec (by omega)).mono fun v0 Wb0 ⟨q1, q2⟩ => ?_))
    refine (hoa.ext q2).appendR (hE1a.trans q2) q1.row (by simp only [List.length_cons, List.length_nil]; omega) fun v Wb g1 g2 g3 => ?_
    refine rounds2 (σ := EncSt) (fun s => s.v) (fun s => .int .i64 s.i) (fun s W' => s.i ≤ o.items.length ∧ Ext w1 W' ∧ OwnB w1 W' s.v (([b8 o.kind] ++ putL o.items.length) ++ (o.items.take s.i).flatMap encI)) (fun s _ => o.items.length - s.i) ⟨v, 0⟩ rfl rfl ⟨Nat.zero_le _, g2, by simpa using g1⟩ ?_
    rintro next ⟨va, i⟩ Wc ⟨hi, hEc, hoc⟩ hnext _
    simp only at hi hoc ⊢
    have hFc := hF.ext hEc
    refine hFc.f2 (hFc.ob.items.len_r (does_lt (condP_of (fun hlt => ?_) fun hge => ?_)))
    · have hlt' : i < o.items.length := by simpa using hlt
      obtain ⟨p, hp, hidx, c0, c1, c2⟩ := hF.ob.items.at_r (List.getElem?_eq_getElem hlt')
      have hx := hio.1 _ (List.getElem_mem hlt')
      have hlen := flat_le (l := o.items.take i) (f := encI) (K := 106) fun x hx => (encI_len (hio.1 x (List.mem_of_mem_take hx))).1
      have hlt2 : (o.items.take i).length = i := by simp; omega
      rw [hlt2] at hlen
      have hnm := hx.2.1.2.2.1
      have h32 := hx.2.2.raw.1
      have hpn := put_length (n := (bs o.items[i].name).length) (by omega)
      refine hFc.f2 (does_of (hidx .i64 Wc) (does_of (run_loadI_r hp (hEc.cell c0) (hEc.cell c1) (hEc.cell c2)) (local_r fun Wd hEd hbd => ?_)))
      refine region56_13 (hEc.trans hEd) (hoc.ext hEd) hbd hx (by simp only [List.length_append, List.length_cons, List.length_nil]; omega) fun v1 We hEe hKe hoe _ => ?_
      refine does_of (run_fieldI_r (p := ⟨Wc.heap.size, 0, none⟩) rfl We).2.2 (does_load1 agg_str (local_cells hKe).2.2 ((raw_spec hx.2.2).mono fun v2 Wf ⟨k1, k2⟩ => ?_))
      refine (hoe.ext k2).appendR (hEe.trans k2) k1.row (by simp only [List.length_append, List.length_cons, List.length_nil]; omega) fun v3 Wg l1 l2 l3 => ?_
      refine does_add (by omega) (by omega) (hnext ⟨v3, i + 1⟩ _ _ Wg rfl (by simp) ⟨hlt', l2, ?_⟩ (by simp only; omega))
      simp only
      rw [flatMap_take_succ hlt', ← List.append_assoc]
      simpa [encI] using l1
    · have hie : i = o.items.length := by simp at hge; omega
      rw [hie, List.take_length] at hoc
      exact fin hEc (by rw [enc2 hk]; exact hoc)
  have hk2 : o.kind ≠ 2 := by simpa using hk2
  have hk : o.kind = 3 := by have := kind_range hmay; omega
  refine does_of (run_eqI Wa) (condP_of (fun _ => ?_) fun hk3 => absurd hk (by simpa using hk3))
  obtain ⟨ht, ⟨hp1, _, hp2⟩, hs1, hs2, ha1, ha2, hm⟩ : Valid o.tree ∧ ParentsOk o.parents ∧ 0 ≤ o.stamp ∧ o.stamp ≤ 1099511627776 ∧ 0 ≤ o.author ∧ o.author ≤ 255 ∧ MsgOk o.msg := by
    rcases hmay with ⟨h, _⟩ | ⟨h, _⟩ | ⟨_, _, _, h⟩
    · omega
    · omega
    · exact h
  have h32 := ht.raw.1
  refine region56_16 hE1a hF hoa ht (by simp) fun v Wb hEb hob _ => ?_
  refine rounds2 (σ := EncSt) (fun s => s.v) (fun s => .int .i64 s.i) (fun s W' => s.i ≤ o.parents.length ∧ Ext w1 W' ∧ OwnB w1 W' s.v (([b8 o.kind] ++ rawL o.tree ++ [b8 o.parents.length]) ++ (o.parents.take s.i).flatMap rawL)) (fun s _ => o.parents.length - s.i) ⟨v, 0⟩ rfl rfl ⟨Nat.zero_le _, hEb, by simpa using hob⟩ ?_
  rintro next ⟨va, i⟩ Wc ⟨hi, hEc, hoc⟩ hnext _
  simp only at hi hoc ⊢
  have hFc := hF.ext hEc
  have hlen := flat_le (l := o.parents.take i) (f := rawL) (K := 32) fun x hx => by rw [(hp1 x (List.mem_of_mem_take hx)).raw.1]; exact Nat.le_refl _
  have hlt2 : (o.parents.take i).length = i := by simp; omega
  rw [hlt2] at hlen
  refine hFc.f4 (hFc.ob.pars.len u_strs (does_lt (condP_of (fun hlt => ?_) fun hge => ?_)))
  · have hlt' : i < o.parents.length := by simpa using hlt
    refine hFc.f4 (hFc.ob.pars.index u_strs sz_str (by simpa using hlt') fun p hp => does_load1 agg_str hp ?_)
    rw [strsV_get hlt']
    have hpi := hp1 _ (List.getElem_mem hlt')
    have hpi32 := hpi.raw.1
    refine (raw_spec hpi).mono fun v2 Wd ⟨k1, k2⟩ => ?_
    refine (hoc.ext k2).appendR (hEc.trans k2) k1.row (by simp only [List.length_append, List.length_cons, List.length_nil]; omega) fun v3 We l1 l2 l3 => ?_
    refine does_add (by omega) (by omega) (hnext ⟨v3, i + 1⟩ _ _ We rfl (by simp) ⟨hlt', l2, ?_⟩ (by simp only; omega))
    simp only
    rw [flatMap_take_succ hlt', ← List.append_assoc]
    exact l1
  · have hie : i = o.parents.length := by simp at hge; omega
    rw [hie, List.take_length] at hoc hlen
    refine region56_21 hEc hF hoc ⟨hs1, hs2⟩ ⟨ha1, ha2⟩ hm.2 (by simp only [List.length_append, List.length_cons, List.length_nil]; omega) fun v2 Wd hEd hod _ => ?_
    have hFd := hF.ext hEd
    have p1 := put_length (n := o.stamp.toNat) (by omega)
    have p2 := put_length (n := o.author.toNat) (by omega)
    have p3 := put_length (n := (bs o.msg).length) (by have := hm.2; omega)
    have hm2 := hm.2
    refine hFd.f7 (hod.appendS hEd (by rw [← bs_length]; simp only [List.length_append, List.length_cons, List.length_nil]; omega) fun v3 We g1 g2 _ => fin g2 ?_)
    rw [enc3 hk]
    exact g1
end Go.Proofs.Ytcncgkkilgmphaa
