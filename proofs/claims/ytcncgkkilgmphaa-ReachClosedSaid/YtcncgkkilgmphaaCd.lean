/-
  Contract: reach.Closure: the walk.
-/
import Derived.Test.YtcncgkkilgmphaaCc
set_option linter.unusedVariables false
set_option linter.unusedSimpArgs false
namespace Go.Proofs.Ytcncgkkilgmphaa
open Go Go.RowKit

structure ClI (w W : World) (ls : List (List UInt8)) (a : List ByteArray) (mb : Nat) (s : ClSt) : Prop where
  e : Ext w W
  m : MapAt W mb s.kvs
  ok : Own W w.heap.size 9 s.tv (strsV ((keysOf s.kvs).filter (isO ls)))
  bad : Own W w.heap.size 9 s.bv (strsV ((keysOf s.kvs).filter fun x => !isO ls x))
  st : Own W w.heap.size 9 s.kv (strsV s.st)
  s1 : Sep s.tv s.bv
  s2 : Sep s.tv s.kv
  s3 : Sep s.bv s.kv
  p : ClP ls a (keysOf s.kvs) s.st
theorem ClI.ext {w W W' : World} {ls : List (List UInt8)} {a : List ByteArray} {mb : Nat} {s : ClSt} (h : ClI w W ls a mb s) (hE : Ext W W') : ClI w W' ls a mb s :=
  ⟨h.e.trans hE, h.m.ext hE, h.ok.ext hE, h.bad.ext hE, h.st.ext hE, h.s1, h.s2, h.s3, h.p⟩
theorem u_map : Try.prog.underlying 77 = some (.map 9 3) := by kernel_rfl
theorem u_str : Try.prog.underlying 9 = some .string := by kernel_rfl
theorem zero_int (w : World) : (zeroValue 3).run Try.prog w = .ok (.int .i64 0) w := by kernel_rfl
def ClR (w w' : World) (ls : List (List UInt8)) (a : List ByteArray) (r : Value) : Prop :=
  Ext w w' ∧ ∃ mv sv met mis, r = .tuple #[mv, sv, .int .i64 0] ∧ Row w' mv (strsV met) ∧ Row w' sv (strsV mis) ∧ Strict met ∧ Strict mis ∧ (∀ x, x ∈ met ↔ Rch ls a x ∧ isO ls x = true) ∧ (∀ x, x ∈ mis ↔ Rch ls a x ∧ isO ls x = false)
theorem keys_new {l : KV} {k : ByteArray} {v : Value} (h : k ∉ keysOf l) : keysOf (ins l k v) = keysOf l ++ [k] := by rw [keysOf_ins, if_neg h]
theorem own_le {w : World} {base : Nat} {e : TypeId} {v : Value} {xs : List Value} (h : Own w base e v xs) : ∀ k, v.ownBlock = some k → k < w.heap.size := fun k hk => (h.lt k hk).2
theorem OwnOb.modLow {w0 W W' : World} {e : TypeId} {dv iv pv : Value} {o : Ob} {g : Option Nat} (h : OwnOb w0 W e dv iv pv o) (hm : Mod g W W') (hg : ∀ k, g = some k → k < w0.heap.size) : OwnOb w0 W' e dv iv pv o := by
  have hne : ∀ {v : Value}, (∀ k, v.ownBlock = some k → w0.heap.size ≤ k) → v.ownBlock = none ∨ v.ownBlock ≠ g := fun {v} hv => by
    cases h : v.ownBlock with
    | none => exact .inl rfl
    | some b =>
      refine .inr fun hh => ?_
      have h1 := hv b h
      have h2 := hg b hh.symm
      omega
  exact ⟨Own.kept h.data hm (hne fun k hk => (Own.lt h.data k hk).1), h.items.kept hm (hne fun k hk => (h.items.lt k hk).1), h.pars.kept hm (hne fun k hk => (h.pars.lt k hk).1)⟩
set_option maxHeartbeats 2000000 in
theorem closure_spec {w : World} {fv av : Value} {ls : List (List UInt8)} {base lb eb ib most : Nat} {lv sv : Value} {a U : List ByteArray} (hs : IsSrc w fv ls false base lb eb ib lv sv) (hll : ∀ l ∈ ls, l.length ≤ 1048576)
    (ha : Row w av (strsV a)) (hal : a.length ≤ 1048576) (hm1 : 1 ≤ most) (hm2 : most ≤ 2000) (hU : ∀ x, Rch ls a x → x ∈ U) (hUl : U.length ≤ most) :
    Call Try.prog 10 #[fv, av, .int .i64 most] w fun r w' => ClR w w' ls a r := by
  apply vc10
  unfold V10
  refine (within_spec hm1 hm2).mono fun v w' ⟨hv, hw⟩ => ?_
  subst hv hw
  refine does_of (run_not w') ?_
  rw [show (!true) = false from rfl, condP_false]
  refine does_of (run_makeMap' _ w') ?_
  have e1 : Ext w' (w'.alloc (.map #[] 0)) := ext_any _ w'
  have m1 : MapAt (w'.alloc (.map #[] 0)) w'.heap.size [] := map_made w'
  generalize w'.alloc (.map #[] 0) = w1 at e1 m1
  refine (clone_spec (ha.ext e1) (by omega)).mono fun kv w2 ⟨hk, e2⟩ => ?_
  have hrefs : ∀ {x : ByteArray} {o : Ob}, getO ls x = some o → (refsOf o).length ≤ 32768 := fun {x o} h => by
    unfold getO at h
    obtain ⟨l, h1, h2⟩ := Option.bind_eq_some_iff.1 h
    obtain ⟨h3, h4⟩ := decO_some h2
    have h5 := refs_len h3
    rw [h4] at h5
    have := hll l (srcF_mem h1)
    omega
  refine rounds3 (σ := ClSt) (fun s => s.tv) (fun s => s.bv) (fun s => s.kv) (fun s W => ClI w' W ls a w'.heap.size s) (fun s _ => (U.length - (keysOf s.kvs).length) * 2097152 + s.st.length) ⟨.slice none 0 0, .slice none 0 0, kv, [], a⟩ rfl rfl rfl
    ⟨e1.trans e2, m1.ext e2, Own.nil _ _ _, Own.nil _ _ _, hk.mono e1.size, .inl rfl, .inl rfl, .inl rfl, ⟨fun x hx => .inr hx, fun x hx => (by simp [keysOf] at hx), fun x hx => (by simp [keysOf] at hx), fun x hx => Rch.start hx, (by simp [keysOf]; omega)⟩⟩ ?_
  rintro next ⟨tv, bv, kv, kvs, st⟩ W hI hnext _
  simp only
  have hks : (keysOf kvs).length ≤ U.length := nodup_le2 hI.m.nodup fun x hx => hU x (hI.p.sk x hx)
  have hln := hI.p.ln
  simp only at hln
  have hln2 : st.length ≤ 1048576 * 2001 := Nat.le_trans hln (Nat.mul_le_mul_left _ (by omega))
  have hrow := hI.st.row
  simp only at hrow
  have hlen : (strsV st).length = st.length := by simp
  refine hrow.len u_strs (does_gt ?_)
  rw [hlen]
  refine condP_of (fun hgt => ?_) fun hle => ?_
  rotate_left
  · -- nothing is left
    have h0 : st = [] := List.eq_nil_of_length_eq_zero (by simp at hle; simpa using hle)
    subst h0
    have hall := hI.p.all
    simp only at hall
    have hnd := hI.m.nodup
    simp only at hnd
    have hfl : ∀ p : ByteArray → Bool, ((keysOf kvs).filter p).length ≤ 1099511627776 := fun p => Nat.le_trans (List.length_filter_le _ _) (by omega)
    refine (sort_spec _ (Nat.le_refl _) hI.ok.row (hfl _)).mono fun mv W1 ⟨h1, hE1⟩ => ?_
    refine (sort_spec _ (Nat.le_refl _) (hI.bad.row.ext hE1) (hfl _)).mono fun nv W2 ⟨h2, hE2⟩ => ⟨hI.e.trans (hE1.trans hE2), mv, nv, _, _, rfl, h1.row.ext hE2, h2.row, sort_nodup2 (hnd.filter _), sort_nodup2 (hnd.filter _), fun x => ?_, fun x => ?_⟩
    · rw [mem_sortS, List.mem_filter, hall]
    · rw [mem_sortS, List.mem_filter, hall]; simp
  have h0 : 0 < st.length := by simpa using hgt
  have hi1 : st.length - 1 < st.length := by omega
  refine hrow.len u_strs (does_sub (by omega) (by omega) ?_)
  rw [hlen, show ((st.length : Nat) : Int) - 1 = ((st.length - 1 : Nat) : Int) by omega]
  refine hrow.index u_strs sz_str (by rw [hlen]; exact hi1) fun p hp => does_load1 agg_str hp ?_
  rw [strsV_get hi1]
  refine hrow.len u_strs (does_sub (by omega) (by omega) ?_)
  rw [hlen, show ((st.length : Nat) : Int) - 1 = ((st.length - 1 : Nat) : Int) by omega]
  obtain ⟨ka, kc, hkv, hkl, _⟩ := id hrow
  have hcut : Own W w'.heap.size 9 (.slice ka (st.length - 1) kc) (strsV (st.take (st.length - 1))) := by
    rw [strsV_take]
    exact Own.cut (n := (strsV st).length) (by rw [← hkv]; exact hI.st) (by rw [hlen]; omega)
  have hcb : (Value.slice ka (st.length - 1) kc).ownBlock = kv.ownBlock := by rw [hkv]; cases ka <;> rfl
  refine does_of (by rw [hkv]; exact run_upto u_strs sz_str (by rw [hlen] at hkl; have := hkl; omega) W) ?_
  generalize hnk : Value.slice ka (st.length - 1) kc = nk at hcut hcb ⊢
  have hs2 : Sep tv nk := by have := hI.s2; simp only [Sep] at this ⊢; rw [hcb]; exact this
  have hs3 : Sep bv nk := by have := hI.s3; simp only [Sep] at this ⊢; rw [hcb]; exact this
  refine does_of (hI.m.lookupOk u_map u_str (zero_int W) _) (ex2a (ex2b ?_))
  refine condP_of (fun hin => ?_) fun hin => ?_
  · have hin : st[st.length - 1] ∈ keysOf kvs := by simpa using hin
    refine hnext ⟨tv, bv, nk, kvs, st.take (st.length - 1)⟩ _ _ _ W rfl rfl rfl ⟨hI.e, hI.m, hI.ok, hI.bad, hcut, hI.s1, hs2, hs3, hI.p.old h0 hin⟩ ?_
    simp only [List.length_take]
    omega
  have hin : st[st.length - 1] ∉ keysOf kvs := by simpa using hin
  have hrx : Rch ls a st[st.length - 1] := hI.p.ss _ (List.getElem_mem _)
  have hks2 : (keysOf kvs).length + 1 ≤ U.length := by
    have := nodup_le2 (l := st[st.length - 1] :: keysOf kvs) (m := U) (List.nodup_cons.2 ⟨hin, hI.m.nodup⟩) fun x hx => by
      rcases List.mem_cons.1 hx with rfl | hx
      · exact hU _ hrx
      · exact hU x (hI.p.sk x hx)
    simpa using this
  have hkl2 : kvs.length = (keysOf kvs).length := by simp [keysOf]
  refine does_of (hI.m.len u_map _) ?_
  refine does_ge ?_
  rw [show decide (((most : Nat) : Int) ≤ ((kvs.length : Nat) : Int)) = false by simp; omega, condP_false]
  generalize hx : st[st.length - 1] = x at hin hrx ⊢
  obtain ⟨W1, hup, hm1', hmod, _⟩ := hI.m.update u_map u_str x (.int .i64 1)
  refine does_of hup ?_
  have hgm : w'.heap.size ≤ w'.heap.size := Nat.le_refl _
  have hI1e : Ext w' W1 := Mod.ext hI.e hmod fun k hk => by cases hk; exact Nat.le_refl _
  have ok1 := hmod.own hI.ok (hI.ok.neM hI.m)
  have bad1 := hmod.own hI.bad (hI.bad.neM hI.m)
  have cut1 := hmod.own hcut (hcut.neM hI.m)
  have hs1 := hI.s1
  have hp := hI.p
  have hkeys := keys_new (v := .int .i64 1) hin
  simp only at hs1 hp ok1 bad1
  refine (object_spec (hs.ext hI1e) hll x).mono fun r W2 ⟨hE2, dv, iv, pv, o, hO, hr⟩ => ?_
  have m2 := hm1'.ext hE2
  have ok2 := ok1.ext hE2
  have bad2 := bad1.ext hE2
  have cut2 := cut1.ext hE2
  have hE02 := hI1e.trans hE2
  have hOw := hO
  have hltv := own_le ok1
  replace hO := hO.isOb
  have alloc : ∀ {b : Bool} {k : Value → World → Prop}, r = .tuple #[ObV dv iv pv o, .bool b] → (∀ W3 ob, Ext W2 W3 → OBlk W3 ob 72 dv iv pv o → IsOb W3 dv iv pv o → k (.pointer (some ⟨ob, 0, none⟩)) W3) →
      Does Try.prog (Instr.alloc 72 true (.tuple #[])) W2 fun t16 W => Does Try.prog (Instr.storeAt 72 t16 (ObV dv iv pv o)) W fun _ W => k t16 W := by
    intro b k _ hk
    refine does_of (run_alloc_o W2) ?_
    have hE4 := ext_any (.cells (ObC (.slice none 0 0) (.slice none 0 0) (.slice none 0 0) ob0) 72) W2
    have hb4 : OBlk (W2.alloc (.cells (ObC (.slice none 0 0) (.slice none 0 0) (.slice none 0 0) ob0) 72)) W2.heap.size 72 (.slice none 0 0) (.slice none 0 0) (.slice none 0 0) ob0 := heap_alloc_new W2 _
    generalize W2.alloc (.cells (ObC (.slice none 0 0) (.slice none 0 0) (.slice none 0 0) ob0) 72) = w4 at hE4 hb4
    obtain ⟨w5, s1, s2, s3⟩ := run_store_o (hO.ext hE4) hb4
    have hEm : Ext W2 w5 := Mod.ext hE4 s3 fun k hk => by cases hk; exact Nat.le_refl _
    exact does_of s1 (hk w5 _ hEm s2 (hO.ext hEm))
  have hm1 : Row W2 av (strsV a) := (ha.ext hE02)
  rcases hr with ⟨hg, rfl⟩ | ⟨hg, rfl⟩
  · -- an object: its refs are to do
    refine ex2a (ex2b (alloc rfl fun W3 ob hE3 hob hO3 => does_of (run_not W3) ?_))
    rw [show (!true) = false from rfl, condP_false]
    have e4 := ext_any (.cells #[.string x] 9) W3
    have o4 := own_one_str x W3
    refine does_of (run_one_str x W3) ?_
    generalize W3.alloc (.cells #[.string x] 9) = W4 at e4 o4
    have E24 := hE3.trans e4
    have E04 := hE02.trans E24
    have hfo : (keysOf (ins kvs x (.int .i64 1))).filter (isO ls) = (keysOf kvs).filter (isO ls) ++ [x] := by
      rw [hkeys, List.filter_append]
      simp [isO, hg]
    have hfb : (keysOf (ins kvs x (.int .i64 1))).filter (fun y => !isO ls y) = (keysOf kvs).filter fun y => !isO ls y := by
      rw [hkeys, List.filter_append]
      simp [isO, hg]
    have hfl : ((keysOf kvs).filter (isO ls)).length ≤ 2000 := Nat.le_trans (List.length_filter_le _ _) (by omega)
    have ok4 := ok2.ext E24
    have bad4 := bad2.ext E24
    have cut4 := cut2.ext E24
    have m4 := m2.ext E24
    refine ok4.push3 E04 o4.row (by simp; omega) fun tv' W5 ok5 E05 hmod5 hat5 => ?_
    have bad5 := hmod5.own bad4 hs1.symm
    have cut5 := hmod5.own cut4 hs2.symm
    have m5 := m4.mod hmod5 (ok4.neM' m4)
    have hob5 : OBlk W5 ob 72 dv iv pv o := (hob.ext e4).mod hmod5 (ok4.neK (hob.ext e4 : Kp ob (ObC dv iv pv o) 72 W4) (by decide))
    have hO5 : IsOb W5 dv iv pv o := ((hOw.ext E24).modLow hmod5 hltv).isOb
    have t1 : Sep tv' bv := (hs1.symm.grown (own_le bad4) hat5).symm
    have t2 : Sep tv' nk := (hs2.symm.grown (own_le cut4) hat5).symm
    refine does_of (run_load_o hO5 hob5) ((refs_spec hO5 (Nat.le_trans (hrefs hg) (by omega))).mono fun rv W6 ⟨hE6, ho6⟩ => ?_)
    have cut6 := cut5.ext hE6
    have hll3 := hrefs hg
    refine cut6.push3 (E05.trans hE6) ho6.row (by simp; omega) fun nk' W7 cut7 E07 hmod7 hat7 => ?_
    have ok6 := ok5.ext hE6
    have bad6 := bad5.ext hE6
    refine hnext ⟨tv', bv, nk', ins kvs x (.int .i64 1), st.take (st.length - 1) ++ refsOf o⟩ _ _ _ W7 rfl rfl rfl ⟨E07, (m5.ext hE6).mod hmod7 (cut6.neM' (m5.ext hE6)), ?_, ?_, cut7, t1, t2.grown (own_le ok6) hat7, hs3.grown (own_le bad6) hat7, ?_⟩ ?_
    · simp only
      rw [hfo]
      exact hmod7.own ok6 t2
    · simp only
      rw [hfb]
      exact hmod7.own bad6 hs3
    · simp only
      rw [hkeys, ← hx]
      exact hp.ok h0 (by rw [hx]; exact hg) (Nat.le_trans hll3 (by omega))
    · simp only [hkeys, List.length_append, List.length_take, List.length_cons, List.length_nil]
      omega
  · -- no object
    refine ex2a (ex2b (alloc rfl fun W3 ob hE3 hob hO3 => does_of (run_not W3) ?_))
    rw [show (!false) = true from rfl, condP_true]
    have e4 := ext_any (.cells #[.string x] 9) W3
    have o4 := own_one_str x W3
    refine does_of (run_one_str x W3) ?_
    generalize W3.alloc (.cells #[.string x] 9) = W4 at e4 o4
    have E24 := hE3.trans e4
    have E04 := hE02.trans E24
    have hfo : (keysOf (ins kvs x (.int .i64 1))).filter (isO ls) = (keysOf kvs).filter (isO ls) := by
      rw [hkeys, List.filter_append]
      simp [isO, hg]
    have hfb : (keysOf (ins kvs x (.int .i64 1))).filter (fun y => !isO ls y) = ((keysOf kvs).filter fun y => !isO ls y) ++ [x] := by
      rw [hkeys, List.filter_append]
      simp [isO, hg]
    have hfl : ((keysOf kvs).filter fun y => !isO ls y).length ≤ 2000 := Nat.le_trans (List.length_filter_le _ _) (by omega)
    have ok4 := ok2.ext E24
    have bad4 := bad2.ext E24
    have cut4 := cut2.ext E24
    have m4 := m2.ext E24
    refine bad4.push3 E04 o4.row (by simp; omega) fun bv' W5 bad5 E05 hmod5 hat5 => ?_
    have t1 : Sep tv bv' := hs1.grown (own_le ok4) hat5
    have t3 : Sep bv' nk := (hs3.symm.grown (own_le cut4) hat5).symm
    refine hnext ⟨tv, bv', nk, ins kvs x (.int .i64 1), st.take (st.length - 1)⟩ _ _ _ W5 rfl rfl rfl ⟨E05, m4.mod hmod5 (bad4.neM' m4), ?_, ?_, hmod5.own cut4 hs3.symm, t1, hs2, t3, ?_⟩ ?_
    · simp only
      rw [hfo]
      exact hmod5.own ok4 hs1
    · simp only
      rw [hfb]
      exact bad5
    · simp only
      rw [hkeys, ← hx]
      exact hp.bad h0 (by rw [hx]; exact hg)
    · simp only [hkeys, List.length_append, List.length_take, List.length_cons, List.length_nil]
      omega
end Go.Proofs.Ytcncgkkilgmphaa
