/-
  The law DagAsks: its drawn regions.
-/
import Derived.Test.YtcncgkkilgmphaaLb
set_option linter.unusedVariables false
set_option linter.unusedSimpArgs false
namespace Go.Proofs.Ytcncgkkilgmphaa
open Go Go.RowKit

theorem run_neB {x y : Operand} {a b : Bool} (w : World) : (eqE .neq 4 x y (.bool a) (.bool b)).run Try.prog w = .ok (.bool (!decide (a = b))) w := by
  cases a <;> cases b <;> kernel_rfl
theorem run_eqB {x y : Operand} {a b : Bool} (w : World) : (eqE .eql 4 x y (.bool a) (.bool b)).run Try.prog w = .ok (.bool (decide (a = b))) w := by
  cases a <;> cases b <;> kernel_rfl
theorem region13 {w : World} {T U : Nat → Prop} {gv xv lv : Value} {G : List Cm} {N : List Nd} {i : Nat} {n : Nd} {J : VF 1} (hP : PG w T gv G) (hR : RG w U xv G) (hl : NR w lv N) (hn : N[i]? = some n) (hb : ∀ c ∈ G, c.ps.length ≤ 1099511627776)
    (hJ : ∀ W, Ext w W → J (.bool false) W) : DrawP Try.prog 289 (opsOf Try.f4 13) [0, 7, 8, 9] [lv, gv, xv, .int .i64 (i : Nat)] [167] J w := by
  obtain ⟨p, hp, c0, c1, c2, hrow, _⟩ := hl.at hn
  have hR0 := hR
  obtain ⟨xb, sI, sP, sS, rows, rfl, hcc⟩ := hR0
  have hw : Ext w { w with drawn := w.drawn + 1 } := Ext.drawn w
  refine p4_13 Ext (fun v _ => v = .int .i64 (G.length : Nat)) (fun v _ => v = (.pointer (some ⟨xb, 0, none⟩))) (fun v _ => v = (.pointer (some ⟨xb, 0, none⟩))) (fun v _ => v = sI) (fun v _ => v = .int .i64 (G.length : Nat)) (fun v _ => v = .bool false) (fun v _ => v = gv) (fun v _ => v = lv) (fun v _ => v = .int .i64 (i : Nat)) (fun v _ => v = .pointer (some p)) (fun v _ => v = .pointer (some (p.add 0))) (fun v _ => v = .string n.id) (fun v _ => v = .bool (decide (n.id ∈ idsOf G))) (fun v _ => v = (.pointer (some ⟨xb, 0, none⟩))) (fun v _ => v = lv) (fun v _ => v = .int .i64 (i : Nat)) (fun v _ => v = .pointer (some p)) (fun v _ => v = .pointer (some (p.add 0))) (fun v _ => v = .string n.id) (fun v _ => v = .bool (decide (n.id ∈ idsOf G))) (fun v _ => v = .bool false) (fun v _ => v = .bool false) (fun v _ => v = gv) (fun v _ => v = lv) (fun v _ => v = .int .i64 (i : Nat)) (fun v _ => v = .pointer (some p)) (fun v _ => v = .pointer (some (p.add 0))) (fun v _ => v = .string n.id) (fun v _ => v = .int .i64 ((cmOf G n.id).elim (-1) (·.st))) (fun v _ => v = (.pointer (some ⟨xb, 0, none⟩))) (fun v _ => v = lv) (fun v _ => v = .int .i64 (i : Nat)) (fun v _ => v = .pointer (some p)) (fun v _ => v = .pointer (some (p.add 0))) (fun v _ => v = .string n.id) (fun v _ => v = .int .i64 ((cmOf G n.id).elim (-1) (·.st))) (fun v _ => v = .bool false) (fun v _ => v = .bool false) (fun v _ => v = gv) (fun v _ => v = lv) (fun v _ => v = .int .i64 (i : Nat)) (fun v _ => v = .pointer (some p)) (fun v _ => v = .pointer (some (p.add 0))) (fun v _ => v = .string n.id) (fun v W => Row W v (strsV (par G n.id))) (fun v _ => v = (.pointer (some ⟨xb, 0, none⟩))) (fun v _ => v = lv) (fun v _ => v = .int .i64 (i : Nat)) (fun v _ => v = .pointer (some p)) (fun v _ => v = .pointer (some (p.add 0))) (fun v _ => v = .string n.id) (fun v W => Row W v (strsV (par G n.id))) (fun v _ => v = .bool true) (fun v _ => v = .bool false) (fun v _ => v = .bool false)
    Ext.refl (fun _ _ _ => Ext.trans) (FSt.pure _) (FSt.pure _) (FSt.pure _) (FSt.pure _) (FSt.pure _) (FSt.pure _) (FSt.pure _) (FSt.pure _) (FSt.pure _) (FSt.pure _) (FSt.pure _) (FSt.pure _) (FSt.pure _) (FSt.pure _) (FSt.pure _) (FSt.pure _) (FSt.pure _) (FSt.pure _) (FSt.pure _) (FSt.pure _) (FSt.pure _) (FSt.pure _) (FSt.pure _) (FSt.pure _) (FSt.pure _) (FSt.pure _) (FSt.pure _) (FSt.pure _) (FSt.pure _) (FSt.pure _) (FSt.pure _) (FSt.pure _) (FSt.pure _) (FSt.pure _) (FSt.pure _) (FSt.pure _) (FSt.pure _) (FSt.pure _) (FSt.pure _) (FSt.pure _) (FSt.pure _) (FSt.pure _) (FSt.pure _) (FSt.pure _) (FSt.row _) (FSt.pure _) (FSt.pure _) (FSt.pure _) (FSt.pure _) (FSt.pure _) (FSt.pure _) (FSt.row _) (FSt.pure _) (FSt.pure _) (FSt.pure _) ?_ ?_ ?_ ?_ ?_ ?_ ?_ ?_ ?_ ?_ ?_ ?_ ?_ ?_ ?_ ?_ ?_ ?_ ?_ ?_ ?_ ?_ ?_ ?_ ?_ ?_ ?_ ?_ ?_ ?_ ?_ ?_ ?_ ?_ ?_ ?_ ?_ ?_ ?_ ?_ ?_ ?_ ?_ ?_ ?_ ?_ ?_ ?_ ?_ ?_ ?_ ?_ ?_ ?_ ?_ ?_
  · rintro  W hS 
    exact (dlen_spec (hP.ext (hw.trans hS))).mono fun u W2 ⟨h1, h2⟩ => ⟨by rw [h2]; exact Ext.refl _, trivial, h1⟩
  · rintro  W hS 
    rw [nilP_some]; exact ⟨Ext.refl _, trivial, rfl⟩
  · rintro t111 W hS rfl
    exact does_of (run_fieldX xb W).1 ⟨Ext.refl _, trivial, rfl⟩
  · rintro t112 W hS rfl
    exact does_of (hcc.ext (hw.trans hS)).loads.1 ⟨Ext.refl _, trivial, rfl⟩
  · rintro t113 W hS rfl
    exact hcc.ids.row.len u_strs ⟨Ext.refl _, trivial, by rw [strsV_length, idsOf_length]⟩
  · rintro t109 t114 W hS rfl rfl
    exact does_of (run_neI W) ⟨Ext.refl _, trivial, by simp⟩
  · rintro t116 W hS rfl
    rw [guardP_ff]
    exact ⟨Ext.refl _, trivial, rfl⟩
  · rintro t116 W hS rfl
    rw [guardP_ff]
    exact ⟨Ext.refl _, trivial, rfl⟩
  · rintro t116 W hS rfl
    rw [guardP_ff]
    exact ⟨Ext.refl _, trivial, rfl⟩
  · rintro t118 t119 t116 W hS rfl rfl rfl
    rw [guardP_ff]
    exact does_of (hp W) ⟨Ext.refl _, trivial, rfl⟩
  · rintro t120 t116 W hS rfl rfl
    rw [guardP_ff]
    exact does_of (run_fieldN p W).1 ⟨Ext.refl _, trivial, rfl⟩
  · rintro t121 t116 W hS rfl rfl
    rw [guardP_ff]
    exact does_load1 agg_str ((hw.trans hS).cell c0) ⟨Ext.refl _, trivial, rfl⟩
  · rintro t117 t122 t116 W hS rfl rfl rfl
    rw [guardP_ff]
    exact (dhas_spec (hP.ext (hw.trans hS))).mono fun u W2 ⟨h1, h2⟩ => ⟨h2, trivial, h1⟩
  · rintro t116 W hS rfl
    rw [guardP_ff]
    exact ⟨Ext.refl _, trivial, rfl⟩
  · rintro t116 W hS rfl
    rw [guardP_ff]
    exact ⟨Ext.refl _, trivial, rfl⟩
  · rintro t116 W hS rfl
    rw [guardP_ff]
    exact ⟨Ext.refl _, trivial, rfl⟩
  · rintro t125 t126 t116 W hS rfl rfl rfl
    rw [guardP_ff]
    exact does_of (hp W) ⟨Ext.refl _, trivial, rfl⟩
  · rintro t127 t116 W hS rfl rfl
    rw [guardP_ff]
    exact does_of (run_fieldN p W).1 ⟨Ext.refl _, trivial, rfl⟩
  · rintro t128 t116 W hS rfl rfl
    rw [guardP_ff]
    exact does_load1 agg_str ((hw.trans hS).cell c0) ⟨Ext.refl _, trivial, rfl⟩
  · rintro t124 t129 t116 W hS rfl rfl rfl
    rw [guardP_ff]
    exact (rhas_spec (hR.ext (hw.trans hS))).mono fun u W2 ⟨h1, h2⟩ => ⟨by rw [h2]; exact Ext.refl _, trivial, h1⟩
  · rintro t123 t130 t116 W hS rfl rfl rfl
    rw [guardP_ff]
    exact does_of (run_neB W) ⟨Ext.refl _, trivial, by simp⟩
  · rintro t116 t131 W hS rfl rfl
    rw [pickP_false]; exact ⟨Ext.refl _, trivial, rfl⟩
  · rintro t133 W hS rfl
    rw [guardP_ff]
    exact ⟨Ext.refl _, trivial, rfl⟩
  · rintro t133 W hS rfl
    rw [guardP_ff]
    exact ⟨Ext.refl _, trivial, rfl⟩
  · rintro t133 W hS rfl
    rw [guardP_ff]
    exact ⟨Ext.refl _, trivial, rfl⟩
  · rintro t135 t136 t133 W hS rfl rfl rfl
    rw [guardP_ff]
    exact does_of (hp W) ⟨Ext.refl _, trivial, rfl⟩
  · rintro t137 t133 W hS rfl rfl
    rw [guardP_ff]
    exact does_of (run_fieldN p W).1 ⟨Ext.refl _, trivial, rfl⟩
  · rintro t138 t133 W hS rfl rfl
    rw [guardP_ff]
    exact does_load1 agg_str ((hw.trans hS).cell c0) ⟨Ext.refl _, trivial, rfl⟩
  · rintro t134 t139 t133 W hS rfl rfl rfl
    rw [guardP_ff]
    exact (dstamp_spec (hP.ext (hw.trans hS))).mono fun u W2 ⟨h1, h2⟩ => ⟨h2, trivial, h1⟩
  · rintro t133 W hS rfl
    rw [guardP_ff]
    exact ⟨Ext.refl _, trivial, rfl⟩
  · rintro t133 W hS rfl
    rw [guardP_ff]
    exact ⟨Ext.refl _, trivial, rfl⟩
  · rintro t133 W hS rfl
    rw [guardP_ff]
    exact ⟨Ext.refl _, trivial, rfl⟩
  · rintro t142 t143 t133 W hS rfl rfl rfl
    rw [guardP_ff]
    exact does_of (hp W) ⟨Ext.refl _, trivial, rfl⟩
  · rintro t144 t133 W hS rfl rfl
    rw [guardP_ff]
    exact does_of (run_fieldN p W).1 ⟨Ext.refl _, trivial, rfl⟩
  · rintro t145 t133 W hS rfl rfl
    rw [guardP_ff]
    exact does_load1 agg_str ((hw.trans hS).cell c0) ⟨Ext.refl _, trivial, rfl⟩
  · rintro t141 t146 t133 W hS rfl rfl rfl
    rw [guardP_ff]
    exact (rstamp_spec (hR.ext (hw.trans hS))).mono fun u W2 ⟨h1, h2⟩ => ⟨h2, trivial, h1⟩
  · rintro t140 t147 t133 W hS rfl rfl rfl
    rw [guardP_ff]
    exact does_of (run_neI W) ⟨Ext.refl _, trivial, by simp⟩
  · rintro t133 t148 W hS rfl rfl
    rw [pickP_false]; exact ⟨Ext.refl _, trivial, rfl⟩
  · rintro t150 W hS rfl
    rw [guardP_ff]
    exact ⟨Ext.refl _, trivial, rfl⟩
  · rintro t150 W hS rfl
    rw [guardP_ff]
    exact ⟨Ext.refl _, trivial, rfl⟩
  · rintro t150 W hS rfl
    rw [guardP_ff]
    exact ⟨Ext.refl _, trivial, rfl⟩
  · rintro t152 t153 t150 W hS rfl rfl rfl
    rw [guardP_ff]
    exact does_of (hp W) ⟨Ext.refl _, trivial, rfl⟩
  · rintro t154 t150 W hS rfl rfl
    rw [guardP_ff]
    exact does_of (run_fieldN p W).1 ⟨Ext.refl _, trivial, rfl⟩
  · rintro t155 t150 W hS rfl rfl
    rw [guardP_ff]
    exact does_load1 agg_str ((hw.trans hS).cell c0) ⟨Ext.refl _, trivial, rfl⟩
  · rintro t151 t156 t150 W hS rfl rfl rfl
    rw [guardP_ff]
    exact (dparents_spec (hP.ext (hw.trans hS)) hb).mono fun u W2 ⟨h1, h2⟩ => ⟨h2, trivial, h1.row⟩
  · rintro t150 W hS rfl
    rw [guardP_ff]
    exact ⟨Ext.refl _, trivial, rfl⟩
  · rintro t150 W hS rfl
    rw [guardP_ff]
    exact ⟨Ext.refl _, trivial, rfl⟩
  · rintro t150 W hS rfl
    rw [guardP_ff]
    exact ⟨Ext.refl _, trivial, rfl⟩
  · rintro t159 t160 t150 W hS rfl rfl rfl
    rw [guardP_ff]
    exact does_of (hp W) ⟨Ext.refl _, trivial, rfl⟩
  · rintro t161 t150 W hS rfl rfl
    rw [guardP_ff]
    exact does_of (run_fieldN p W).1 ⟨Ext.refl _, trivial, rfl⟩
  · rintro t162 t150 W hS rfl rfl
    rw [guardP_ff]
    exact does_load1 agg_str ((hw.trans hS).cell c0) ⟨Ext.refl _, trivial, rfl⟩
  · rintro t158 t163 t150 W hS rfl rfl rfl
    rw [guardP_ff]
    exact (rparents_spec (hR.ext (hw.trans hS)) hb).mono fun u W2 ⟨h1, h2⟩ => ⟨h2, trivial, h1.row⟩
  · rintro t157 t164 t150 W hS h49 h56 rfl
    rw [guardP_ff]
    exact (texts_spec h49 h56).mono fun u W2 ⟨h1, h2⟩ => ⟨h2, trivial, by rw [h1]; simp⟩
  · rintro t165 t150 W hS rfl rfl
    rw [guardP_ff]
    exact does_of (run_not W) ⟨Ext.refl _, trivial, rfl⟩
  · rintro t150 t166 W hS rfl rfl
    rw [pickP_false]; exact ⟨Ext.refl _, trivial, rfl⟩
  · rintro t W hS rfl
    exact hJ W (hw.trans hS)
end Go.Proofs.Ytcncgkkilgmphaa
