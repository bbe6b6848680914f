/- What functions of the program answer, walked on the abstract layer; the conditions stand in each theorem. -/
import Derived.Test.YtpcgnmoogjahbaaTy
import Derived.Test.YtpcgnmoogjahbaaW28
set_option linter.unusedVariables false
set_option linter.unusedSimpArgs false
set_option maxRecDepth 100000
namespace Go.Proofs.Ytpcgnmoogjahbaa
open Go Go.W Go.RowKit
def zD (c : Int) : List V := [.z, .z, .s (.int .i64 c)]
def zB : List V := [.s (.bool false), .z, .z, .z, .z, .z, .s (.int .i64 0)]
def zR : List V := [.z, .z, .s (.string ⟨#[]⟩), .z, .s (.bool false)]
def zF (c : Int) (u : Bool) : List V := [.z, .z, .s (.int .i64 c), .s (.bool u), .z, .s (.bool false), .z, .z, .z, .z, .z, .s (.int .i64 0), .s (.bool false), .z, .z, .s (.string ⟨#[]⟩), .z, .s (.bool false)]
theorem z25 : PureV C 25 [.z, .z] (.s (.bool true)) := by
  refine pure_of_run Try.func25 rfl (by kernel_rfl) (by kernel_rfl) (by simp) (fun _ => rfl) (fun _ => rfl) 6 1000 ?_
  simp +contextual (disch := (unfold LIM at *; omega)) only [↓bcase_true, ↓bcase_false, WA, simprocAttr, wrap_i64, WB6]
  refine LoopThen.zero 1000 1000 ?_
  simp +contextual (disch := (unfold LIM at *; omega)) only [↓bcase_true, ↓bcase_false, WA, simprocAttr, wrap_i64, WB6]
theorem z24 : PureV C 24 [.z, .z] (.s (.bool true)) := by
  refine pure_of_run Try.func24 rfl (by kernel_rfl) (by kernel_rfl) (by simp) (fun _ => rfl) (fun _ => rfl) 6 1000 ?_
  simp +contextual (disch := (unfold LIM at *; omega)) only [↓bcase_true, ↓bcase_false, WA, simprocAttr, wrap_i64, WB6]
  refine LoopThen.zero 1000 1000 ?_
  simp +contextual (disch := (unfold LIM at *; omega)) only [↓bcase_true, ↓bcase_false, WA, simprocAttr, wrap_i64, WB6]
theorem z50 : PureV C 50 [.z, .z] (.s (.bool true)) := by
  refine pure_of_run Try.func50 rfl (by kernel_rfl) (by kernel_rfl) (by simp) (fun _ => rfl) (fun _ => rfl) 6 1000 ?_
  simp +contextual (disch := (unfold LIM at *; omega)) only [↓bcase_true, ↓bcase_false, WA, simprocAttr, wrap_i64, WB6]
  refine LoopThen.zero 1000 1000 ?_
  simp +contextual (disch := (unfold LIM at *; omega)) only [↓bcase_true, ↓bcase_false, WA, simprocAttr, wrap_i64, WB6]
theorem z79 : PureV C 79 [.z, .z] (.s (.bool true)) := by
  refine pure_of_run Try.func79 rfl (by kernel_rfl) (by kernel_rfl) (by simp) (fun _ => rfl) (fun _ => rfl) 6 1000 ?_
  simp +contextual (disch := (unfold LIM at *; omega)) only [↓bcase_true, ↓bcase_false, WA, simprocAttr, wrap_i64, WB6]
  refine LoopThen.zero 1000 1000 ?_
  simp +contextual (disch := (unfold LIM at *; omega)) only [↓bcase_true, ↓bcase_false, WA, simprocAttr, wrap_i64, WB6]
theorem z119 : PureV C 119 [.z, .z] (.s (.bool true)) := by
  refine pure_of_run Try.func119 rfl (by kernel_rfl) (by kernel_rfl) (by simp) (fun _ => rfl) (fun _ => rfl) 6 1000 ?_
  simp +contextual (disch := (unfold LIM at *; omega)) only [↓bcase_true, ↓bcase_false, WA, simprocAttr, wrap_i64, WB6]
  refine LoopThen.zero 1000 1000 ?_
  simp +contextual (disch := (unfold LIM at *; omega)) only [↓bcase_true, ↓bcase_false, WA, simprocAttr, wrap_i64, WB6]
theorem z120 : PureV C 120 [.z, .z] (.s (.bool true)) := by
  refine pure_of_run Try.func120 rfl (by kernel_rfl) (by kernel_rfl) (by simp) (fun _ => rfl) (fun _ => rfl) 6 1000 ?_
  simp +contextual (disch := (unfold LIM at *; omega)) only [↓bcase_true, ↓bcase_false, WA, simprocAttr, wrap_i64, WB6]
  refine LoopThen.zero 1000 1000 ?_
  simp +contextual (disch := (unfold LIM at *; omega)) only [↓bcase_true, ↓bcase_false, WA, simprocAttr, wrap_i64, WB6]
theorem z27 : PureV C 27 [.z, .s (.int .i64 1)] (.s (.int .i64 1)) := by
  refine pure_of_run Try.func27 rfl (by kernel_rfl) (by kernel_rfl) (by simp) (fun _ => rfl) (fun _ => rfl) 6 1000 ?_
  simp +contextual (disch := (unfold LIM at *; omega)) only [↓bcase_true, ↓bcase_false, WA, simprocAttr, wrap_i64, WB6]
  refine LoopThen.zero 1000 1000 ?_
  simp +contextual (disch := (unfold LIM at *; omega)) only [↓bcase_true, ↓bcase_false, WA, simprocAttr, wrap_i64, WB6]
theorem z26 : PureV C 26 [.z, .s (.int .i64 1)] (.s (.int .i64 1)) := by
  refine pure_of_run Try.func26 rfl (by kernel_rfl) (by kernel_rfl) (by simp) (fun _ => rfl) (fun _ => rfl) 6 1000 ?_
  simp +contextual (disch := (unfold LIM at *; omega)) only [↓bcase_true, ↓bcase_false, WA, simprocAttr, wrap_i64, WB6]
  refine LoopThen.zero 1000 1000 ?_
  simp +contextual (disch := (unfold LIM at *; omega)) only [↓bcase_true, ↓bcase_false, WA, simprocAttr, wrap_i64, WB6]
theorem z52 : PureV C 52 [.z, .s (.int .i64 1)] (.s (.int .i64 1)) := by
  refine pure_of_run Try.func52 rfl (by kernel_rfl) (by kernel_rfl) (by simp) (fun _ => rfl) (fun _ => rfl) 6 1000 ?_
  simp +contextual (disch := (unfold LIM at *; omega)) only [↓bcase_true, ↓bcase_false, WA, simprocAttr, wrap_i64, WB6]
  refine LoopThen.zero 1000 1000 ?_
  simp +contextual (disch := (unfold LIM at *; omega)) only [↓bcase_true, ↓bcase_false, WA, simprocAttr, wrap_i64, WB6]
theorem z99 : PureV C 99 [.z, .s (.int .i64 1)] (.s (.int .i64 1)) := by
  refine pure_of_run Try.func99 rfl (by kernel_rfl) (by kernel_rfl) (by simp) (fun _ => rfl) (fun _ => rfl) 6 1000 ?_
  simp +contextual (disch := (unfold LIM at *; omega)) only [↓bcase_true, ↓bcase_false, WA, simprocAttr, wrap_i64, WB6]
  refine LoopThen.zero 1000 1000 ?_
  simp +contextual (disch := (unfold LIM at *; omega)) only [↓bcase_true, ↓bcase_false, WA, simprocAttr, wrap_i64, WB6]
theorem z121 : PureV C 121 [.z, .s (.int .i64 1)] (.s (.int .i64 1)) := by
  refine pure_of_run Try.func121 rfl (by kernel_rfl) (by kernel_rfl) (by simp) (fun _ => rfl) (fun _ => rfl) 6 1000 ?_
  simp +contextual (disch := (unfold LIM at *; omega)) only [↓bcase_true, ↓bcase_false, WA, simprocAttr, wrap_i64, WB6]
  refine LoopThen.zero 1000 1000 ?_
  simp +contextual (disch := (unfold LIM at *; omega)) only [↓bcase_true, ↓bcase_false, WA, simprocAttr, wrap_i64, WB6]
theorem z122 : PureV C 122 [.z, .s (.int .i64 1)] (.s (.int .i64 1)) := by
  refine pure_of_run Try.func122 rfl (by kernel_rfl) (by kernel_rfl) (by simp) (fun _ => rfl) (fun _ => rfl) 6 1000 ?_
  simp +contextual (disch := (unfold LIM at *; omega)) only [↓bcase_true, ↓bcase_false, WA, simprocAttr, wrap_i64, WB6]
  refine LoopThen.zero 1000 1000 ?_
  simp +contextual (disch := (unfold LIM at *; omega)) only [↓bcase_true, ↓bcase_false, WA, simprocAttr, wrap_i64, WB6]
theorem z67 : PureV C 67 [.z, .s (.int .i64 1)] (.s (.int .i64 1)) := by
  refine pure_of_run Try.func67 rfl (by kernel_rfl) (by kernel_rfl) (by simp) (fun _ => rfl) (fun _ => rfl) 6 1000 ?_
  simp +contextual (disch := (unfold LIM at *; omega)) only [↓bcase_true, ↓bcase_false, WA, simprocAttr, wrap_i64, WB6]
  refine LoopThen.zero 1000 1000 ?_
  simp +contextual (disch := (unfold LIM at *; omega)) only [↓bcase_true, ↓bcase_false, WA, simprocAttr, wrap_i64, WB6]
theorem z93 : PureV C 93 [.z, .s (.int .i64 1)] (.s (.int .i64 1)) := by
  refine pure_of_run Try.func93 rfl (by kernel_rfl) (by kernel_rfl) (by simp) (fun _ => rfl) (fun _ => rfl) 6 1000 ?_
  simp +contextual (disch := (unfold LIM at *; omega)) only [↓bcase_true, ↓bcase_false, WA, simprocAttr, wrap_i64, WB6]
  refine LoopThen.zero 1000 1000 ?_
  simp +contextual (disch := (unfold LIM at *; omega)) only [↓bcase_true, ↓bcase_false, WA, simprocAttr, wrap_i64, WB6]
theorem z53 : PureV C 53 [.z, .s (.int .i64 1)] (.s (.int .i64 1)) := by
  refine pure_of_run Try.func53 rfl (by kernel_rfl) (by kernel_rfl) (by simp) (fun _ => rfl) (fun _ => rfl) 6 1000 ?_
  simp +contextual (disch := (unfold LIM at *; omega)) only [↓bcase_true, ↓bcase_false, WA, simprocAttr, wrap_i64, WB6]
  refine LoopThen.zero 1000 1000 ?_
  simp +contextual (disch := (unfold LIM at *; omega)) only [↓bcase_true, ↓bcase_false, WA, simprocAttr, wrap_i64, WB6]
theorem z101 : PureV C 101 [.z, .s (.int .i64 1)] (.s (.int .i64 1)) := by
  refine pure_of_run Try.func101 rfl (by kernel_rfl) (by kernel_rfl) (by simp) (fun _ => rfl) (fun _ => rfl) 6 1000 ?_
  simp +contextual (disch := (unfold LIM at *; omega)) only [↓bcase_true, ↓bcase_false, WA, simprocAttr, wrap_i64, WB6]
  refine LoopThen.zero 1000 1000 ?_
  simp +contextual (disch := (unfold LIM at *; omega)) only [↓bcase_true, ↓bcase_false, WA, simprocAttr, wrap_i64, WB6]
theorem z123 : PureV C 123 [.z, .s (.int .i64 1)] (.s (.int .i64 1)) := by
  refine pure_of_run Try.func123 rfl (by kernel_rfl) (by kernel_rfl) (by simp) (fun _ => rfl) (fun _ => rfl) 6 1000 ?_
  simp +contextual (disch := (unfold LIM at *; omega)) only [↓bcase_true, ↓bcase_false, WA, simprocAttr, wrap_i64, WB6]
  refine LoopThen.zero 1000 1000 ?_
  simp +contextual (disch := (unfold LIM at *; omega)) only [↓bcase_true, ↓bcase_false, WA, simprocAttr, wrap_i64, WB6]
theorem z124 : PureV C 124 [.z, .s (.int .i64 1)] (.s (.int .i64 1)) := by
  refine pure_of_run Try.func124 rfl (by kernel_rfl) (by kernel_rfl) (by simp) (fun _ => rfl) (fun _ => rfl) 6 1000 ?_
  simp +contextual (disch := (unfold LIM at *; omega)) only [↓bcase_true, ↓bcase_false, WA, simprocAttr, wrap_i64, WB6]
  refine LoopThen.zero 1000 1000 ?_
  simp +contextual (disch := (unfold LIM at *; omega)) only [↓bcase_true, ↓bcase_false, WA, simprocAttr, wrap_i64, WB6]
theorem z34 (c : Int) : PureV C 34 [.agg (zD c), .agg (zD c)] (.s (.bool true)) := by
  refine pure_of_run Try.func34 rfl (by kernel_rfl) (by kernel_rfl) (by simp) (fun _ => rfl) (fun _ => rfl) 6 1000 ?_
  simp +contextual (disch := (unfold LIM at *; omega)) only [↓bcase_true, ↓bcase_false, WA, simprocAttr, wrap_i64, zD]
  refine CallThen.pure z50 1000 ?_
  simp +contextual (disch := (unfold LIM at *; omega)) only [↓bcase_true, ↓bcase_false, WA, simprocAttr, wrap_i64, zD]
  refine CallThen.pure z79 1000 ?_
  simp +contextual (disch := (unfold LIM at *; omega)) only [↓bcase_true, ↓bcase_false, WA, simprocAttr, wrap_i64, zD]
theorem z89 : PureV C 89 [.agg zB, .agg zB] (.s (.bool true)) := by
  refine pure_of_run Try.func89 rfl (by kernel_rfl) (by kernel_rfl) (by simp) (fun _ => rfl) (fun _ => rfl) 6 1000 ?_
  simp +contextual (disch := (unfold LIM at *; omega)) only [↓bcase_true, ↓bcase_false, WA, simprocAttr, wrap_i64, zB, bne_self_eq_false]
  refine CallThen.pure z119 1000 ?_
  simp +contextual (disch := (unfold LIM at *; omega)) only [↓bcase_true, ↓bcase_false, WA, simprocAttr, wrap_i64, zB, bne_self_eq_false]
  refine CallThen.pure z24 1000 ?_
  simp +contextual (disch := (unfold LIM at *; omega)) only [↓bcase_true, ↓bcase_false, WA, simprocAttr, wrap_i64, zB, bne_self_eq_false]
  refine CallThen.pure z120 1000 ?_
  simp +contextual (disch := (unfold LIM at *; omega)) only [↓bcase_true, ↓bcase_false, WA, simprocAttr, wrap_i64, zB, bne_self_eq_false]
  refine CallThen.pure z25 1000 ?_
  simp +contextual (disch := (unfold LIM at *; omega)) only [↓bcase_true, ↓bcase_false, WA, simprocAttr, wrap_i64, zB, bne_self_eq_false]
  refine CallThen.pure z25 1000 ?_
  simp +contextual (disch := (unfold LIM at *; omega)) only [↓bcase_true, ↓bcase_false, WA, simprocAttr, wrap_i64, zB, bne_self_eq_false]
theorem z90 : PureV C 90 [.agg zR, .agg zR] (.s (.bool true)) := by
  refine pure_of_run Try.func90 rfl (by kernel_rfl) (by kernel_rfl) (by simp) (fun _ => rfl) (fun _ => rfl) 6 1000 ?_
  simp +contextual (disch := (unfold LIM at *; omega)) only [↓bcase_true, ↓bcase_false, WA, simprocAttr, wrap_i64, zR, bne_self_eq_false]
  refine CallThen.pure z119 1000 ?_
  simp +contextual (disch := (unfold LIM at *; omega)) only [↓bcase_true, ↓bcase_false, WA, simprocAttr, wrap_i64, zR, bne_self_eq_false]
  refine CallThen.pure z120 1000 ?_
  simp +contextual (disch := (unfold LIM at *; omega)) only [↓bcase_true, ↓bcase_false, WA, simprocAttr, wrap_i64, zR, bne_self_eq_false]
  refine CallThen.pure z25 1000 ?_
  simp +contextual (disch := (unfold LIM at *; omega)) only [↓bcase_true, ↓bcase_false, WA, simprocAttr, wrap_i64, zR, bne_self_eq_false]
theorem z43 (c : Int) (u : Bool) : PureV C 43 [.agg (zF c u), .agg (zF c u)] (.s (.bool true)) := by
  refine pure_of_run Try.func43 rfl (by kernel_rfl) (by kernel_rfl) (by simp) (fun _ => rfl) (fun _ => rfl) 6 1000 ?_
  simp +contextual (disch := (unfold LIM at *; omega)) only [↓bcase_true, ↓bcase_false, WA, simprocAttr, wrap_i64, zF, bne_self_eq_false]
  refine CallThen.pure (z34 c) 1000 ?_
  simp +contextual (disch := (unfold LIM at *; omega)) only [↓bcase_true, ↓bcase_false, WA, simprocAttr, wrap_i64, zF, bne_self_eq_false]
  refine CallThen.pure z24 1000 ?_
  simp +contextual (disch := (unfold LIM at *; omega)) only [↓bcase_true, ↓bcase_false, WA, simprocAttr, wrap_i64, zF, bne_self_eq_false]
  refine CallThen.pure z89 1000 ?_
  simp +contextual (disch := (unfold LIM at *; omega)) only [↓bcase_true, ↓bcase_false, WA, simprocAttr, wrap_i64, zF, bne_self_eq_false]
  refine CallThen.pure z90 1000 ?_
  simp +contextual (disch := (unfold LIM at *; omega)) only [↓bcase_true, ↓bcase_false, WA, simprocAttr, wrap_i64, zF, bne_self_eq_false]
theorem z51 (c : Int) : PureV C 51 [.agg (zD c), .s (.int .i64 1)] (.s (.int .i64 1)) := by
  refine pure_of_run Try.func51 rfl (by kernel_rfl) (by kernel_rfl) (by simp) (fun _ => rfl) (fun _ => rfl) 6 1000 ?_
  simp +contextual (disch := (unfold LIM at *; omega)) only [↓bcase_true, ↓bcase_false, WA, simprocAttr, wrap_i64, zD]
  refine CallThen.pure z52 1000 ?_
  simp +contextual (disch := (unfold LIM at *; omega)) only [↓bcase_true, ↓bcase_false, WA, simprocAttr, wrap_i64, zD]
  refine CallThen.pure z99 1000 ?_
  simp +contextual (disch := (unfold LIM at *; omega)) only [↓bcase_true, ↓bcase_false, WA, simprocAttr, wrap_i64, zD]
theorem z91 : PureV C 91 [.agg zB, .s (.int .i64 1)] (.s (.int .i64 1)) := by
  refine pure_of_run Try.func91 rfl (by kernel_rfl) (by kernel_rfl) (by simp) (fun _ => rfl) (fun _ => rfl) 6 1000 ?_
  simp +contextual (disch := (unfold LIM at *; omega)) only [↓bcase_true, ↓bcase_false, WA, simprocAttr, wrap_i64, zB]
  refine CallThen.pure z121 1000 ?_
  simp +contextual (disch := (unfold LIM at *; omega)) only [↓bcase_true, ↓bcase_false, WA, simprocAttr, wrap_i64, zB]
  refine CallThen.pure z26 1000 ?_
  simp +contextual (disch := (unfold LIM at *; omega)) only [↓bcase_true, ↓bcase_false, WA, simprocAttr, wrap_i64, zB]
  refine CallThen.pure z122 1000 ?_
  simp +contextual (disch := (unfold LIM at *; omega)) only [↓bcase_true, ↓bcase_false, WA, simprocAttr, wrap_i64, zB]
  refine CallThen.pure z27 1000 ?_
  simp +contextual (disch := (unfold LIM at *; omega)) only [↓bcase_true, ↓bcase_false, WA, simprocAttr, wrap_i64, zB]
  refine CallThen.pure z27 1000 ?_
  simp +contextual (disch := (unfold LIM at *; omega)) only [↓bcase_true, ↓bcase_false, WA, simprocAttr, wrap_i64, zB]
theorem z92 : PureV C 92 [.agg zR, .s (.int .i64 1)] (.s (.int .i64 1)) := by
  refine pure_of_run Try.func92 rfl (by kernel_rfl) (by kernel_rfl) (by simp) (fun _ => rfl) (fun _ => rfl) 6 1000 ?_
  simp +contextual (disch := (unfold LIM at *; omega)) only [↓bcase_true, ↓bcase_false, WA, simprocAttr, wrap_i64, zR]
  refine CallThen.pure z121 1000 ?_
  simp +contextual (disch := (unfold LIM at *; omega)) only [↓bcase_true, ↓bcase_false, WA, simprocAttr, wrap_i64, zR]
  refine CallThen.pure z122 1000 ?_
  simp +contextual (disch := (unfold LIM at *; omega)) only [↓bcase_true, ↓bcase_false, WA, simprocAttr, wrap_i64, zR]
  refine CallThen.pure z27 1000 ?_
  simp +contextual (disch := (unfold LIM at *; omega)) only [↓bcase_true, ↓bcase_false, WA, simprocAttr, wrap_i64, zR]
theorem z44 (c : Int) (u : Bool) : PureV C 44 [.agg (zF c u), .s (.int .i64 1)] (.s (.int .i64 1)) := by
  refine pure_of_run Try.func44 rfl (by kernel_rfl) (by kernel_rfl) (by simp) (fun _ => rfl) (fun _ => rfl) 6 1000 ?_
  simp +contextual (disch := (unfold LIM at *; omega)) only [↓bcase_true, ↓bcase_false, WA, simprocAttr, wrap_i64, zF]
  refine CallThen.pure (z51 c) 1000 ?_
  simp +contextual (disch := (unfold LIM at *; omega)) only [↓bcase_true, ↓bcase_false, WA, simprocAttr, wrap_i64, zF]
  refine CallThen.pure z26 1000 ?_
  simp +contextual (disch := (unfold LIM at *; omega)) only [↓bcase_true, ↓bcase_false, WA, simprocAttr, wrap_i64, zF]
  refine CallThen.pure z91 1000 ?_
  simp +contextual (disch := (unfold LIM at *; omega)) only [↓bcase_true, ↓bcase_false, WA, simprocAttr, wrap_i64, zF]
  refine CallThen.pure z92 1000 ?_
  simp +contextual (disch := (unfold LIM at *; omega)) only [↓bcase_true, ↓bcase_false, WA, simprocAttr, wrap_i64, zF]
theorem z55 (c : Int) : PureV C 55 [.agg (zD c), .s (.int .i64 1)] (.s (.int .i64 1)) := by
  refine pure_of_run Try.func55 rfl (by kernel_rfl) (by kernel_rfl) (by simp) (fun _ => rfl) (fun _ => rfl) 6 1000 ?_
  simp +contextual (disch := (unfold LIM at *; omega)) only [↓bcase_true, ↓bcase_false, WA, simprocAttr, wrap_i64, zD]
  refine CallThen.pure z53 1000 ?_
  simp +contextual (disch := (unfold LIM at *; omega)) only [↓bcase_true, ↓bcase_false, WA, simprocAttr, wrap_i64, zD]
  refine CallThen.pure z101 1000 ?_
  simp +contextual (disch := (unfold LIM at *; omega)) only [↓bcase_true, ↓bcase_false, WA, simprocAttr, wrap_i64, zD]
theorem z94 : PureV C 94 [.agg zB, .s (.int .i64 1)] (.s (.int .i64 1)) := by
  refine pure_of_run Try.func94 rfl (by kernel_rfl) (by kernel_rfl) (by simp) (fun _ => rfl) (fun _ => rfl) 6 1000 ?_
  simp +contextual (disch := (unfold LIM at *; omega)) only [↓bcase_true, ↓bcase_false, WA, simprocAttr, wrap_i64, zB]
  refine CallThen.pure z123 1000 ?_
  simp +contextual (disch := (unfold LIM at *; omega)) only [↓bcase_true, ↓bcase_false, WA, simprocAttr, wrap_i64, zB]
  refine CallThen.pure z93 1000 ?_
  simp +contextual (disch := (unfold LIM at *; omega)) only [↓bcase_true, ↓bcase_false, WA, simprocAttr, wrap_i64, zB]
  refine CallThen.pure z124 1000 ?_
  simp +contextual (disch := (unfold LIM at *; omega)) only [↓bcase_true, ↓bcase_false, WA, simprocAttr, wrap_i64, zB]
  refine CallThen.pure z67 1000 ?_
  simp +contextual (disch := (unfold LIM at *; omega)) only [↓bcase_true, ↓bcase_false, WA, simprocAttr, wrap_i64, zB]
  refine CallThen.pure z67 1000 ?_
  simp +contextual (disch := (unfold LIM at *; omega)) only [↓bcase_true, ↓bcase_false, WA, simprocAttr, wrap_i64, zB]
theorem z95 : PureV C 95 [.agg zR, .s (.int .i64 1)] (.s (.int .i64 1)) := by
  refine pure_of_run Try.func95 rfl (by kernel_rfl) (by kernel_rfl) (by simp) (fun _ => rfl) (fun _ => rfl) 6 1000 ?_
  simp +contextual (disch := (unfold LIM at *; omega)) only [↓bcase_true, ↓bcase_false, WA, simprocAttr, wrap_i64, zR]
  refine CallThen.pure z123 1000 ?_
  simp +contextual (disch := (unfold LIM at *; omega)) only [↓bcase_true, ↓bcase_false, WA, simprocAttr, wrap_i64, zR]
  refine CallThen.pure z124 1000 ?_
  simp +contextual (disch := (unfold LIM at *; omega)) only [↓bcase_true, ↓bcase_false, WA, simprocAttr, wrap_i64, zR]
  refine CallThen.pure z67 1000 ?_
  simp +contextual (disch := (unfold LIM at *; omega)) only [↓bcase_true, ↓bcase_false, WA, simprocAttr, wrap_i64, zR]
theorem z45 (c : Int) (u : Bool) : PureV C 45 [.agg (zF c u), .s (.int .i64 1)] (.s (.int .i64 1)) := by
  refine pure_of_run Try.func45 rfl (by kernel_rfl) (by kernel_rfl) (by simp) (fun _ => rfl) (fun _ => rfl) 6 1000 ?_
  simp +contextual (disch := (unfold LIM at *; omega)) only [↓bcase_true, ↓bcase_false, WA, simprocAttr, wrap_i64, zF]
  refine CallThen.pure (z55 c) 1000 ?_
  simp +contextual (disch := (unfold LIM at *; omega)) only [↓bcase_true, ↓bcase_false, WA, simprocAttr, wrap_i64, zF]
  refine CallThen.pure z93 1000 ?_
  simp +contextual (disch := (unfold LIM at *; omega)) only [↓bcase_true, ↓bcase_false, WA, simprocAttr, wrap_i64, zF]
  refine CallThen.pure z94 1000 ?_
  simp +contextual (disch := (unfold LIM at *; omega)) only [↓bcase_true, ↓bcase_false, WA, simprocAttr, wrap_i64, zF]
  refine CallThen.pure z95 1000 ?_
  simp +contextual (disch := (unfold LIM at *; omega)) only [↓bcase_true, ↓bcase_false, WA, simprocAttr, wrap_i64, zF]
theorem z74 (a b c : Int) : PureV C 74 [.s (.int .i64 a), .s (.int .i64 b), .s (.int .i64 c)] (.s (.bool (decide (b ≤ a ∧ a ≤ c)))) := by
  refine pure_of_run Try.func74 rfl (by kernel_rfl) (by kernel_rfl) (by simp) (fun _ => rfl) (fun _ => rfl) 6 1000 ?_
  by_cases h : b ≤ a <;> simp +contextual (disch := (unfold LIM at *; omega)) only [↓bcase_true, ↓bcase_false, WA, simprocAttr, wrap_i64, h]
def opened (c : Int) : List V := if 0 ≤ c ∧ c ≤ 1000000 then zF c true else zF 0 false
theorem z41 (c : Int) : PureV C 41 [.s (.int .i64 c)] (.agg (opened c)) := by
  refine pure_of_run Try.func41 rfl (by kernel_rfl) (by kernel_rfl) (by simp) (fun _ => rfl) (fun _ => by unfold opened; split <;> rfl) 6 1000 ?_
  by_cases h1 : c < 0
  · have e : ¬ (0 ≤ c ∧ c ≤ 1000000) := by omega
    simp +contextual (disch := (unfold LIM at *; omega)) only [↓bcase_true, ↓bcase_false, WA, simprocAttr, wrap_i64, h1, opened, e, zF]
  by_cases h2 : 1000000 < c
  · have e : ¬ (0 ≤ c ∧ c ≤ 1000000) := by omega
    simp +contextual (disch := (unfold LIM at *; omega)) only [↓bcase_true, ↓bcase_false, WA, simprocAttr, wrap_i64, h1, h2, opened, e, zF]
  · have e : 0 ≤ c ∧ c ≤ 1000000 := by omega
    simp +contextual (disch := (unfold LIM at *; omega)) only [↓bcase_true, ↓bcase_false, WA, simprocAttr, wrap_i64, h1, h2, opened, e, zF]
theorem z42 (c : Int) : PureV C 42 [.s (.int .i64 c)] (.agg (opened c)) := by
  refine pure_of_run Try.func42 rfl (by kernel_rfl) (by kernel_rfl) (by simp) (fun _ => rfl) (fun _ => by unfold opened; split <;> rfl) 6 1000 ?_
  simp +contextual (disch := (unfold LIM at *; omega)) only [↓bcase_true, ↓bcase_false, WA, simprocAttr, wrap_i64]
  refine CallThen.pure (z74 c 0 1000000) 1000 ?_
  by_cases e : 0 ≤ c ∧ c ≤ 1000000
  · simp +contextual (disch := (unfold LIM at *; omega)) only [↓bcase_true, ↓bcase_false, WA, simprocAttr, wrap_i64, opened, e, zF]
  · simp +contextual (disch := (unfold LIM at *; omega)) only [↓bcase_true, ↓bcase_false, WA, simprocAttr, wrap_i64, opened, e, zF]
theorem z8 (c : Int) : PureV C 8 [.s (.int .i64 c)] (.s (.bool true)) := by
  refine pure_of_run Try.func8 rfl (by kernel_rfl) (by kernel_rfl) (by simp) (fun _ => rfl) (fun _ => rfl) 6 1000 ?_
  obtain ⟨c', u, ho⟩ : ∃ c' u, opened c = zF c' u := by unfold opened; split <;> exact ⟨_, _, rfl⟩
  have w41 := z41 c
  have w42 := z42 c
  rw [ho] at w41 w42
  simp +contextual (disch := (unfold LIM at *; omega)) only [↓bcase_true, ↓bcase_false, WA, simprocAttr, wrap_i64]
  refine CallThen.pure w41 1000 ?_
  simp +contextual (disch := (unfold LIM at *; omega)) only [↓bcase_true, ↓bcase_false, WA, simprocAttr, wrap_i64, zF]
  refine CallThen.pure w42 1000 ?_
  simp +contextual (disch := (unfold LIM at *; omega)) only [↓bcase_true, ↓bcase_false, WA, simprocAttr, wrap_i64, zF]
  refine CallThen.pure (z43 c' u) 1000 ?_
  simp +contextual (disch := (unfold LIM at *; omega)) only [↓bcase_true, ↓bcase_false, WA, simprocAttr, wrap_i64, zF]
  refine CallThen.pure (z44 c' u) 1000 ?_
  simp +contextual (disch := (unfold LIM at *; omega)) only [↓bcase_true, ↓bcase_false, WA, simprocAttr, wrap_i64, zF]
  refine CallThen.pure (z45 c' u) 1000 ?_
  simp +contextual (disch := (unfold LIM at *; omega)) only [↓bcase_true, ↓bcase_false, WA, simprocAttr, wrap_i64, zF]
  refine CallThen.pure w42 1000 ?_
  simp +contextual (disch := (unfold LIM at *; omega)) only [↓bcase_true, ↓bcase_false, WA, simprocAttr, wrap_i64, zF]
  refine CallThen.pure (z43 c' u) 1000 ?_
  simp +contextual (disch := (unfold LIM at *; omega)) only [↓bcase_true, ↓bcase_false, WA, simprocAttr, wrap_i64, zF]
  refine CallThen.pure (z45 c' u) 1000 ?_
  simp +contextual (disch := (unfold LIM at *; omega)) only [↓bcase_true, ↓bcase_false, WA, simprocAttr, wrap_i64, zF]
end Go.Proofs.Ytpcgnmoogjahbaa
