/- What functions of the program answer, walked on the abstract layer, and closed facts of the program; the conditions stand in each theorem. -/
import Derived.Test.YtpcgnmoogjahbaaG3
import Derived.Lib.Strings
import Derived.Lib.Slices
import Derived.Lib.Walk
import Derived.Lib.Bytealg
import Derived.Lib.Overlaps
import Derived.Laws.Strings
/- part D2 -/
set_option linter.unusedVariables false
set_option linter.unusedSimpArgs false
set_option maxRecDepth 100000
namespace Go.Proofs.Ytpcgnmoogjahbaa
open Go Go.W Go.RowKit
def dV (fl : List Fl) (ol : List Opn) (cap : Int) : List V := [.f 2 (fl.map fV), .f 3 (ol.map oV), .s (.int .i64 cap)]
def szD (fl : List Fl) (ol : List Opn) (left : Int) : Int := if szS szF fl left < 0 then -1 else if szS szO ol (szS szF fl left) < 0 then -1 else szS szO ol (szS szF fl left)
theorem walk30 (fl : List Fl) (ol : List Opn) (cap left : Int) (h0 : 0 ≤ left) (h1 : left ≤ 1048576) : PureV C 30 [.agg (dV fl ol cap), .s (.int .i64 left)] (.s (.int .i64 (szD fl ol left))) := by
  refine pure_of_run Try.func30 rfl (by kernel_rfl) (by kernel_rfl) (by simp) (fun _ => rfl) (fun _ => rfl) 6 1000 ?_
  have r := szS_range szF_range fl left h0 h1
  simp +contextual (maxSteps := 2000000) (disch := ((try unfold LIM at *); omega)) only [↓bcase_true, ↓bcase_false, WA, simprocAttr, wrap_i64, dV]
  refine CallThen.pure (walk68 fl left h0 h1) 1000 ?_
  by_cases c : szS szF fl left < 0
  · simp +contextual (maxSteps := 2000000) (disch := ((try unfold LIM at *); omega)) only [↓bcase_true, ↓bcase_false, WA, simprocAttr, wrap_i64, szD, c]
  · simp +contextual (maxSteps := 2000000) (disch := ((try unfold LIM at *); omega)) only [↓bcase_true, ↓bcase_false, WA, simprocAttr, wrap_i64, szD, c]
    refine CallThen.pure (walk69 ol _ (by omega) (by omega)) 1000 ?_
    simp +contextual (maxSteps := 2000000) (disch := ((try unfold LIM at *); omega)) only [↓bcase_true, ↓bcase_false, WA, simprocAttr, wrap_i64]
theorem walk32 (fl : List Fl) (ol : List Opn) (cap : Int) (hf : fl.length ≤ 1048576) (ho : ol.length ≤ 1048576) : PureV C 32 [.agg (dV fl ol cap)] (.agg (dV fl ol cap)) := by
  refine pure_of_run Try.func32 rfl (by kernel_rfl) (by kernel_rfl) (by simp) (fun _ => rfl) (fun _ => rfl) 6 1000 ?_
  simp +contextual (maxSteps := 2000000) (disch := ((try unfold LIM at *); omega)) only [↓bcase_true, ↓bcase_false, WA, simprocAttr, wrap_i64, dV]
  refine CallThen.pure (walk72 fl hf) 1000 ?_
  simp +contextual (maxSteps := 2000000) (disch := ((try unfold LIM at *); omega)) only [↓bcase_true, ↓bcase_false, WA, simprocAttr, wrap_i64]
  refine CallThen.pure (walk73 ol ho) 1000 ?_
  simp +contextual (maxSteps := 2000000) (disch := ((try unfold LIM at *); omega)) only [↓bcase_true, ↓bcase_false, WA, simprocAttr, wrap_i64]
theorem walk98 (f g : Fl) : PureV C 98 [.agg (fV f), .agg (fV g)] (.s (.bool (decide (f = g)))) := by
  refine pure_of_run Try.func98 rfl (by kernel_rfl) (by kernel_rfl) (by simp) (fun _ => rfl) (fun _ => rfl) 6 1000 ?_
  obtain ⟨a, b⟩ := f
  obtain ⟨a', b'⟩ := g
  simp +contextual (maxSteps := 2000000) (disch := ((try unfold LIM at *); omega)) only [↓bcase_true, ↓bcase_false, WA, simprocAttr, wrap_i64, fV, Prod.mk.injEq]
theorem walk112 (f g : Opn) : PureV C 112 [.agg (oV f), .agg (oV g)] (.s (.bool (decide (f = g)))) := by
  refine pure_of_run Try.func112 rfl (by kernel_rfl) (by kernel_rfl) (by simp) (fun _ => rfl) (fun _ => rfl) 6 1000 ?_
  obtain ⟨n, a, b⟩ := f
  obtain ⟨n', a', b'⟩ := g
  simp +contextual (maxSteps := 2000000) (disch := ((try unfold LIM at *); omega)) only [↓bcase_true, ↓bcase_false, WA, simprocAttr, wrap_i64, oV, Prod.mk.injEq]

theorem walk50 (l m : List Fl) : PureV C 50 [.f 2 (l.map fV), .f 2 (m.map fV)] (.s (.bool (decide (l = m)))) := by
  refine pure_of_run Try.func50 rfl (by kernel_rfl) (by kernel_rfl) (by simp) (fun _ => rfl) (fun _ => rfl) 6 1000 ?_
  by_cases lm : l.length = m.length
  · have ml : (m.length : Int) = l.length := by omega
    simp +contextual (maxSteps := 2000000) (disch := ((try unfold LIM at *); omega)) only [↓bcase_true, ↓bcase_false, WA, simprocAttr, wrap_i64, List.length_map, ml]
    intro hm hl
    refine LoopThen.pure (ι := Nat) (fun i => i ≤ l.length ∧ l.take i = m.take i) (fun i => keepL [(0, .f 2 (l.map fV)), (1, .f 2 (m.map fV)), (5, .s (.int .i64 i))]) (fun i => l.length - i) 6 [0, 1, 5] 1000 1000 ⟨0, ⟨Nat.zero_le _, rfl⟩, by simp +contextual (maxSteps := 2000000) (disch := ((try unfold LIM at *); omega)) only [↓bcase_true, ↓bcase_false, WA, simprocAttr, wrap_i64]⟩ ?_
    rintro i ⟨p1, p2⟩
    by_cases c2 : (i : Int) < l.length
    · obtain ⟨f, hf⟩ := get_lt c2
      obtain ⟨g, hg⟩ := get_lt (show (i : Int) < m.length by omega)
      have pi : (0 : Int) ≤ i := by omega
      simp +contextual (maxSteps := 2000000) (disch := ((try unfold LIM at *); omega)) only [↓bcase_true, ↓bcase_false, WA, simprocAttr, wrap_i64, List.length_map, hl, hm, c2, hf, hg, pi]
      refine DrawThen.of 1000 [] (.old 0 (.old 1 (.old 2 (.old 3 (.old 4 (.old 5 (.old 6 (.old 7 (.go 8 (.new 9 .done)))))))))) (panFree_loopP (panFree_pure _ _ _)) (by kernel_rfl) (by kernel_rfl) (by kernel_rfl) ?_
      simp +contextual (maxSteps := 2000000) (disch := ((try unfold LIM at *); omega)) only [↓bcase_true, ↓bcase_false, WA, simprocAttr, wrap_i64, hl, hm, c2, hf, hg, pi, List.length_map, fV]
      refine DCall.pure (walk98 f g) 1000 (.new 9 .done) (by kernel_rfl) ?_
      by_cases c3 : f = g
      · simp +contextual (maxSteps := 2000000) (disch := ((try unfold LIM at *); omega)) only [↓bcase_true, ↓bcase_false, WA, simprocAttr, wrap_i64, c3, cast_succ]
        exact ⟨i + 1, ⟨⟨by omega, by rw [List.take_add_one, List.take_add_one, p2, hf, hg, c3]⟩, by omega⟩, rfl⟩
      · have ne : ¬ l = m := fun e => c3 (by rw [e, hg] at hf; exact (Option.some.inj hf).symm)
        simp +contextual (maxSteps := 2000000) (disch := ((try unfold LIM at *); omega)) only [↓bcase_true, ↓bcase_false, WA, simprocAttr, wrap_i64, c3, ne]
    · have e : i = l.length := by omega
      subst e
      have eq : l = m := by rw [List.take_length, lm, List.take_length] at p2; exact p2
      subst eq
      simp +contextual (maxSteps := 2000000) (disch := ((try unfold LIM at *); omega)) only [↓bcase_true, ↓bcase_false, WA, simprocAttr, wrap_i64, List.length_map, hl, hm, c2]
  · have ml : ¬ (l.length : Int) = m.length := by omega
    have ne : ¬ l = m := fun e => lm (by rw [e])
    simp +contextual (maxSteps := 2000000) (disch := ((try unfold LIM at *); omega)) only [↓bcase_true, ↓bcase_false, WA, simprocAttr, wrap_i64, List.length_map, ml, ne]

theorem walk79 (l m : List Opn) : PureV C 79 [.f 3 (l.map oV), .f 3 (m.map oV)] (.s (.bool (decide (l = m)))) := by
  refine pure_of_run Try.func79 rfl (by kernel_rfl) (by kernel_rfl) (by simp) (fun _ => rfl) (fun _ => rfl) 6 1000 ?_
  by_cases lm : l.length = m.length
  · have ml : (m.length : Int) = l.length := by omega
    simp +contextual (maxSteps := 2000000) (disch := ((try unfold LIM at *); omega)) only [↓bcase_true, ↓bcase_false, WA, simprocAttr, wrap_i64, List.length_map, ml]
    intro hm hl
    refine LoopThen.pure (ι := Nat) (fun i => i ≤ l.length ∧ l.take i = m.take i) (fun i => keepL [(0, .f 3 (l.map oV)), (1, .f 3 (m.map oV)), (5, .s (.int .i64 i))]) (fun i => l.length - i) 6 [0, 1, 5] 1000 1000 ⟨0, ⟨Nat.zero_le _, rfl⟩, by simp +contextual (maxSteps := 2000000) (disch := ((try unfold LIM at *); omega)) only [↓bcase_true, ↓bcase_false, WA, simprocAttr, wrap_i64]⟩ ?_
    rintro i ⟨p1, p2⟩
    by_cases c2 : (i : Int) < l.length
    · obtain ⟨f, hf⟩ := get_lt c2
      obtain ⟨g, hg⟩ := get_lt (show (i : Int) < m.length by omega)
      have pi : (0 : Int) ≤ i := by omega
      simp +contextual (maxSteps := 2000000) (disch := ((try unfold LIM at *); omega)) only [↓bcase_true, ↓bcase_false, WA, simprocAttr, wrap_i64, List.length_map, hl, hm, c2, hf, hg, pi]
      refine DrawThen.of 1000 [] (.old 0 (.old 1 (.old 2 (.old 3 (.old 4 (.old 5 (.old 6 (.old 7 (.go 8 (.new 9 .done)))))))))) (panFree_loopP (panFree_pure _ _ _)) (by kernel_rfl) (by kernel_rfl) (by kernel_rfl) ?_
      simp +contextual (maxSteps := 2000000) (disch := ((try unfold LIM at *); omega)) only [↓bcase_true, ↓bcase_false, WA, simprocAttr, wrap_i64, hl, hm, c2, hf, hg, pi, List.length_map, oV]
      refine DCall.pure (walk112 f g) 1000 (.new 9 .done) (by kernel_rfl) ?_
      by_cases c3 : f = g
      · simp +contextual (maxSteps := 2000000) (disch := ((try unfold LIM at *); omega)) only [↓bcase_true, ↓bcase_false, WA, simprocAttr, wrap_i64, c3, cast_succ]
        exact ⟨i + 1, ⟨⟨by omega, by rw [List.take_add_one, List.take_add_one, p2, hf, hg, c3]⟩, by omega⟩, rfl⟩
      · have ne : ¬ l = m := fun e => c3 (by rw [e, hg] at hf; exact (Option.some.inj hf).symm)
        simp +contextual (maxSteps := 2000000) (disch := ((try unfold LIM at *); omega)) only [↓bcase_true, ↓bcase_false, WA, simprocAttr, wrap_i64, c3, ne]
    · have e : i = l.length := by omega
      subst e
      have eq : l = m := by rw [List.take_length, lm, List.take_length] at p2; exact p2
      subst eq
      simp +contextual (maxSteps := 2000000) (disch := ((try unfold LIM at *); omega)) only [↓bcase_true, ↓bcase_false, WA, simprocAttr, wrap_i64, List.length_map, hl, hm, c2]
  · have ml : ¬ (l.length : Int) = m.length := by omega
    have ne : ¬ l = m := fun e => lm (by rw [e])
    simp +contextual (maxSteps := 2000000) (disch := ((try unfold LIM at *); omega)) only [↓bcase_true, ↓bcase_false, WA, simprocAttr, wrap_i64, List.length_map, ml, ne]

theorem walk34 (fl : List Fl) (ol : List Opn) (cap : Int) (fl' : List Fl) (ol' : List Opn) (cap' : Int) : PureV C 34 [.agg (dV fl ol cap), .agg (dV fl' ol' cap')] (.s (.bool (decide (fl = fl' ∧ ol = ol' ∧ cap = cap')))) := by
  refine pure_of_run Try.func34 rfl (by kernel_rfl) (by kernel_rfl) (by simp) (fun _ => rfl) (fun _ => rfl) 6 1000 ?_
  simp +contextual (maxSteps := 2000000) (disch := ((try unfold LIM at *); omega)) only [↓bcase_true, ↓bcase_false, WA, simprocAttr, wrap_i64, dV]
  refine CallThen.pure (walk50 fl fl') 1000 ?_
  by_cases c : fl = fl'
  · simp +contextual (maxSteps := 2000000) (disch := ((try unfold LIM at *); omega)) only [↓bcase_true, ↓bcase_false, WA, simprocAttr, wrap_i64, c]
    refine CallThen.pure (walk79 ol ol') 1000 ?_
    by_cases c1 : ol = ol'
    · simp +contextual (maxSteps := 2000000) (disch := ((try unfold LIM at *); omega)) only [↓bcase_true, ↓bcase_false, WA, simprocAttr, wrap_i64, c1, c]
    · simp +contextual (maxSteps := 2000000) (disch := ((try unfold LIM at *); omega)) only [↓bcase_true, ↓bcase_false, WA, simprocAttr, wrap_i64, c1, c]
  · simp +contextual (maxSteps := 2000000) (disch := ((try unfold LIM at *); omega)) only [↓bcase_true, ↓bcase_false, WA, simprocAttr, wrap_i64, c]
end Go.Proofs.Ytpcgnmoogjahbaa
/- part D3 -/
set_option linter.unusedVariables false
set_option linter.unusedSimpArgs false
set_option maxRecDepth 100000
namespace Go.Proofs.Ytpcgnmoogjahbaa
open Go Go.W Go.RowKit
def sizeF : List Fl → Nat
  | [] => 0
  | f :: r => f.1.size + f.2.size + sizeF r
theorem sizeF_app : ∀ (a b : List Fl), sizeF (a ++ b) = sizeF a + sizeF b
  | [], b => by simp [sizeF]
  | f :: r, b => by simp [sizeF, sizeF_app r b]; omega
theorem sizeF_take (l : List Fl) (i : Nat) : sizeF (l.take i) ≤ sizeF l := by
  have := sizeF_app (l.take i) (l.drop i)
  rw [List.take_append_drop] at this; omega
theorem sizeF_succ (l : List Fl) (i : Nat) (f : Fl) (h : l[i]? = some f) : sizeF (l.take (i + 1)) = sizeF (l.take i) + f.1.size + f.2.size := by
  rw [List.take_add_one, h, sizeF_app]; simp [sizeF]; omega
def fits (l : List Fl) (room : Int) : Prop := l.length ≤ 20 ∧ (sizeF l : Int) ≤ room
instance (l : List Fl) (room : Int) : Decidable (fits l room) := by unfold fits; infer_instance
theorem walk105 (l : List Fl) (hb : sizeF l ≤ 9223372036854775807) : PureV C 105 [.f 2 (l.map fV)] (.s (.int .i64 (sizeF l))) := by
  refine pure_of_run Try.func105 rfl (by kernel_rfl) (by kernel_rfl) (by simp) (fun _ => rfl) (fun _ => rfl) 6 1000 ?_
  simp +contextual (maxSteps := 2000000) (disch := ((try unfold LIM at *); omega)) only [↓bcase_true, ↓bcase_false, WA, simprocAttr, wrap_i64]
  refine LoopThen.pure (ι := Nat) (fun i => i ≤ l.length) (fun i => keepL [(0, .f 2 (l.map fV)), (3, .s (.int .i64 (sizeF (l.take i)))), (4, .s (.int .i64 i))]) (fun i => l.length - i) 6 [0, 3, 4] 1000 1000 ⟨0, Nat.zero_le _, by simp +contextual (maxSteps := 2000000) (disch := ((try unfold LIM at *); omega)) only [↓bcase_true, ↓bcase_false, WA, simprocAttr, wrap_i64, sizeF]⟩ ?_
  intro i p1
  by_cases c2 : (i : Int) < l.length
  · obtain ⟨f, hf⟩ := get_lt c2
    have pi : (0 : Int) ≤ i := by omega
    have s1 := sizeF_succ l i f hf
    have s2 := sizeF_take l (i + 1)
    have s3 : (sizeF (l.take i) : Int) + f.1.size + f.2.size = sizeF (l.take (i + 1)) := by omega
    simp +contextual (maxSteps := 2000000) (disch := ((try unfold LIM at *); omega)) only [↓bcase_true, ↓bcase_false, WA, simprocAttr, wrap_i64, List.length_map, c2, hf, pi, fV]
    intro hl
    refine DrawThen.of 1000 [] (.old 0 (.old 1 (.old 2 (.old 3 (.old 4 (.old 5 (.old 6 (.old 7 (.old 8 (.old 9 (.old 10 (.old 11 (.old 12 (.old 13 (.old 14 (.old 15 .done)))))))))))))))) (panFree_loopP (panFree_pure _ _ _)) (by kernel_rfl) (by kernel_rfl) (by kernel_rfl) ?_
    simp +contextual (maxSteps := 2000000) (disch := ((try unfold LIM at *); omega)) only [↓bcase_true, ↓bcase_false, WA, simprocAttr, wrap_i64, List.length_map, c2, hf, pi, fV, cast_succ, s3]
    exact fun _ _ => ⟨i + 1, ⟨by omega, by omega⟩, rfl⟩
  · have e : i = l.length := by omega
    subst e
    simp +contextual (maxSteps := 2000000) (disch := ((try unfold LIM at *); omega)) only [↓bcase_true, ↓bcase_false, WA, simprocAttr, wrap_i64, List.length_map, c2, List.take_length]
theorem walk70 (l : List Fl) (room : Int) (hb : sizeF l ≤ 9223372036854775807) : PureV C 70 [.f 2 (l.map fV), .s (.int .i64 room)] (.s (.bool (decide (fits l room)))) := by
  refine pure_of_run Try.func70 rfl (by kernel_rfl) (by kernel_rfl) (by simp) (fun _ => rfl) (fun _ => rfl) 6 1000 ?_
  by_cases c1 : (l.length : Int) ≤ 20
  · have e : fits l room ↔ ((sizeF l : Nat) : Int) ≤ room := by unfold fits; constructor <;> intro q <;> first | exact q.2 | exact ⟨by omega, q⟩
    simp +contextual (maxSteps := 2000000) (disch := ((try unfold LIM at *); omega)) only [↓bcase_true, ↓bcase_false, WA, simprocAttr, wrap_i64, List.length_map, c1, e]
    intro _
    refine CallThen.pure (walk105 l hb) 1000 ?_
    simp +contextual (maxSteps := 2000000) (disch := ((try unfold LIM at *); omega)) only [↓bcase_true, ↓bcase_false, WA, simprocAttr, wrap_i64]
  · have e : fits l room ↔ False := by unfold fits; constructor <;> intro q <;> first | omega | exact q.elim
    simp +contextual (maxSteps := 2000000) (disch := ((try unfold LIM at *); omega)) only [↓bcase_true, ↓bcase_false, WA, simprocAttr, wrap_i64, List.length_map, c1, e]
def getS : List Fl → ByteArray → ByteArray × Bool
  | [], _ => (⟨#[]⟩, false)
  | f :: r, n => if f.1 = n then (f.2, true) else getS r n
theorem walk97 (l : List Fl) (n : ByteArray) : PureV C 97 [.f 2 (l.map fV), .s (.string n)] (.tup [.s (.string (getS l n).1), .s (.bool (getS l n).2)]) := by
  refine pure_of_run Try.func97 rfl (by kernel_rfl) (by kernel_rfl) (by simp) (fun _ => rfl) (fun _ => rfl) 6 1000 ?_
  simp +contextual (maxSteps := 2000000) (disch := ((try unfold LIM at *); omega)) only [↓bcase_true, ↓bcase_false, WA, simprocAttr, wrap_i64]
  refine LoopThen.pure (ι := Nat) (fun i => i ≤ l.length ∧ getS (l.drop i) n = getS l n) (fun i => keepL [(0, .f 2 (l.map fV)), (1, .s (.string n)), (6, .s (.int .i64 i))]) (fun i => l.length - i) 6 [0, 1, 6] 1000 1000 ⟨0, ⟨Nat.zero_le _, rfl⟩, by simp +contextual (maxSteps := 2000000) (disch := ((try unfold LIM at *); omega)) only [↓bcase_true, ↓bcase_false, WA, simprocAttr, wrap_i64]⟩ ?_
  rintro i ⟨p1, p2⟩
  by_cases c2 : (i : Int) < l.length
  · obtain ⟨f, hf⟩ := get_lt c2
    have pi : (0 : Int) ≤ i := by omega
    have key : getS l n = if f.1 = n then (f.2, true) else getS (l.drop (i + 1)) n := by rw [← p2, drop_cons hf, getS]
    by_cases c3 : f.1 = n
    · simp +contextual (maxSteps := 2000000) (disch := ((try unfold LIM at *); omega)) only [↓bcase_true, ↓bcase_false, WA, simprocAttr, wrap_i64, List.length_map, c2, hf, pi, fV, c3, key]
    · simp +contextual (maxSteps := 2000000) (disch := ((try unfold LIM at *); omega)) only [↓bcase_true, ↓bcase_false, WA, simprocAttr, wrap_i64, List.length_map, c2, hf, pi, fV, c3, cast_succ]
      exact fun _ => ⟨i + 1, ⟨⟨by omega, by rw [key, if_neg c3]⟩, by omega⟩, rfl⟩
  · have e : i = l.length := by omega
    subst e
    rw [List.drop_length] at p2
    simp +contextual (maxSteps := 2000000) (disch := ((try unfold LIM at *); omega)) only [↓bcase_true, ↓bcase_false, WA, simprocAttr, wrap_i64, List.length_map, c2, ← p2, getS]
end Go.Proofs.Ytpcgnmoogjahbaa
/- part D4 -/
set_option linter.unusedVariables false
set_option linter.unusedSimpArgs false
set_option maxRecDepth 100000
namespace Go.Proofs.Ytpcgnmoogjahbaa
open Go Go.W Go.RowKit
def dropS (l : List Fl) (n : ByteArray) : List Fl := l.filter fun f => decide (f.1 ≠ n)
theorem len_drop (l : List Fl) (n : ByteArray) : (dropS l n).length ≤ l.length := List.length_filter_le _ _
theorem walk107 (l : List Fl) (n : ByteArray) (hl : l.length ≤ 1048576) : PureV C 107 [.f 2 (l.map fV), .s (.string n)] (.f 2 ((dropS l n).map fV)) := by
  refine pure_of_run Try.func107 rfl (by kernel_rfl) (by kernel_rfl) (by simp) (fun _ => rfl) (fun _ => rfl) 6 1000 ?_
  simp +contextual (maxSteps := 2000000) (disch := ((try unfold LIM at *); omega)) only [↓bcase_true, ↓bcase_false, WA, simprocAttr, wrap_i64]
  refine LoopThen.own (ι := Nat × Nat) (fun p => p.1 ≤ l.length ∧ (dropS (l.take p.1) n).length ≤ p.2) (fun p => [(0, .f 2 (l.map fV)), (1, .s (.string n)), (5, .sl 0 0 (dropS (l.take p.1) n).length p.2), (6, .s (.int .i64 p.1))])
    (fun p => [⟨(dropS (l.take p.1) n).map fV, 2, p.2, true⟩]) (fun p => l.length - p.1) 1000 1000 ⟨(0, 0), ⟨Nat.zero_le _, Nat.zero_le _⟩, [0], by simp, by simp +contextual (maxSteps := 2000000) (disch := ((try unfold LIM at *); omega)) only [↓bcase_true, ↓bcase_false, WA, simprocAttr, wrap_i64, true_or, dropS, List.filter_nil], by simp +contextual (maxSteps := 2000000) (disch := ((try unfold LIM at *); omega)) only [↓bcase_true, ↓bcase_false, WA, simprocAttr, wrap_i64, dropS, List.filter_nil]⟩ ?_
  rintro ⟨i, cap⟩ ⟨p1, p2⟩
  by_cases c2 : (i : Int) < l.length
  · obtain ⟨f, hf⟩ := get_lt c2
    have pi : (0 : Int) ≤ i := by omega
    have ds : dropS (l.take (i + 1)) n = dropS (l.take i) n ++ if f.1 = n then [] else [f] := by
      unfold dropS; rw [List.take_add_one, hf, List.filter_append]
      by_cases c3 : f.1 = n <;> simp [c3]
    have dl := len_drop (l.take i) n
    rw [List.length_take] at dl
    by_cases c3 : f.1 = n
    · rw [if_pos c3, List.append_nil] at ds
      simp +contextual (maxSteps := 2000000) (disch := ((try unfold LIM at *); omega)) only [↓bcase_true, ↓bcase_false, WA, simprocAttr, wrap_i64, List.length_map, c2, hf, pi, fV, c3, cast_succ]
      intro _
      refine ⟨(i + 1, cap), ⟨⟨by omega, by rw [ds]; exact p2⟩, by omega⟩, [0], by simp, by simp +contextual (maxSteps := 2000000) (disch := ((try unfold LIM at *); omega)) only [↓bcase_true, ↓bcase_false, WA, simprocAttr, wrap_i64, ds, nrs_map fV_nr, true_or], by simp +contextual (maxSteps := 2000000) (disch := ((try unfold LIM at *); omega)) only [↓bcase_true, ↓bcase_false, WA, simprocAttr, wrap_i64, ds]⟩
    · rw [if_neg c3] at ds
      have q1 : (0 : Nat) ≤ (dropS (l.take i) n).length := Nat.zero_le _
      have q2 : ((dropS (l.take i) n).length + 1) * 32 ≤ 140737488355328 := by omega
      have q3 : (dropS (l.take i) n).length + 1 ≤ LIM := by unfold LIM; omega
      simp +contextual (maxSteps := 2000000) (disch := ((try unfold LIM at *); omega)) only [↓bcase_true, ↓bcase_false, WA, simprocAttr, wrap_i64, List.length_map, c2, hf, pi, fV, c3, cast_succ, q2, q3, takeTo, List.set_cons_zero]
      exact fun _ cap' hc _ => ⟨(i + 1, cap'), ⟨⟨by omega, by rw [ds]; simpa using hc⟩, by omega⟩, [2], by simp, by simp +contextual (maxSteps := 2000000) (disch := ((try unfold LIM at *); omega)) only [↓bcase_true, ↓bcase_false, WA, simprocAttr, wrap_i64, ds, List.map_append, fV, nrs_append, nrs_map fV_nr], by simp +contextual (maxSteps := 2000000) (disch := ((try unfold LIM at *); omega)) only [↓bcase_true, ↓bcase_false, WA, simprocAttr, wrap_i64, ds, List.length_append]⟩
  · have e : i = l.length := by simp at p1; omega
    subst e
    simp only [List.take_length] at *
    simp +contextual (maxSteps := 2000000) (disch := ((try unfold LIM at *); omega)) only [↓bcase_true, ↓bcase_false, WA, simprocAttr, wrap_i64, List.length_map, c2, fV_frz, Nat.not_lt_zero]
def ltB (a b : ByteArray) : Bool := Op.bytesLess a.toList b.toList
def putS (l : List Fl) (n d : ByteArray) : List Fl :=
  l.takeWhile (fun f => ltB f.1 n) ++ (n, d) :: (match l.dropWhile (fun f => ltB f.1 n) with | [] => [] | f :: r => if f.1 = n then r else f :: r)
theorem tw_get {α : Type} (p : α → Bool) (l : List α) (i : Nat) (a : α) (h : l[i]? = some a) (hi : i ≤ (l.takeWhile p).length) : (p a = true → i + 1 ≤ (l.takeWhile p).length) ∧ (p a = false → i = (l.takeWhile p).length) := by
  induction l generalizing i with
  | nil => simp at h
  | cons x r ih =>
    by_cases hp : p x
    · rw [List.takeWhile_cons_of_pos hp] at hi ⊢
      cases i with
      | zero => simp only [List.getElem?_cons_zero, Option.some.injEq] at h; subst h; simp [hp]
      | succ i =>
        simp only [List.getElem?_cons_succ] at h
        simp only [List.length_cons] at hi ⊢
        have := ih i h (by omega)
        exact ⟨fun q => by have := this.1 q; omega, fun q => by have := this.2 q; omega⟩
    · rw [List.takeWhile_cons_of_neg hp] at hi ⊢
      have : i = 0 := by simpa using hi
      subst this
      simp only [List.getElem?_cons_zero, Option.some.injEq] at h; subst h; simp [hp]
theorem tw_take {α : Type} (p : α → Bool) (l : List α) : l.take (l.takeWhile p).length = l.takeWhile p ∧ l.drop (l.takeWhile p).length = l.dropWhile p := by
  have h := List.takeWhile_append_dropWhile (p := p) (l := l)
  have e1 : (l.takeWhile p ++ l.dropWhile p).take (l.takeWhile p).length = l.takeWhile p := List.take_left' rfl
  have e2 : (l.takeWhile p ++ l.dropWhile p).drop (l.takeWhile p).length = l.dropWhile p := List.drop_left' rfl
  rw [h] at e1 e2; exact ⟨e1, e2⟩
theorem walk106 (l : List Fl) (n d : ByteArray) (hl : l.length ≤ 1048576) : PureV C 106 [.f 2 (l.map fV), .s (.string n), .s (.string d)] (.f 2 ((putS l n d).map fV)) := by
  refine pure_of_run Try.func106 rfl (by kernel_rfl) (by kernel_rfl) (by simp) (fun _ => rfl) (fun _ => rfl) 6 1000 ?_
  simp +contextual (maxSteps := 2000000) (disch := ((try unfold LIM at *); omega)) only [↓bcase_true, ↓bcase_false, WA, simprocAttr, wrap_i64]
  refine LoopThen.pure (ι := Nat) (fun i => i ≤ (l.takeWhile fun f => ltB f.1 n).length) (fun i => keepL [(0, .f 2 (l.map fV)), (1, .s (.string n)), (2, .s (.string d)), (7, .s (.int .i64 i))]) (fun i => l.length - i) 6 [0, 1, 2, 7] 1000 1000 ⟨0, Nat.zero_le _, by simp +contextual (maxSteps := 2000000) (disch := ((try unfold LIM at *); omega)) only [↓bcase_true, ↓bcase_false, WA, simprocAttr, wrap_i64]⟩ ?_
  intro i p1
  have tl : (l.takeWhile fun f => ltB f.1 n).length ≤ l.length := by
    have := congrArg List.length (List.takeWhile_append_dropWhile (p := fun f : Fl => ltB f.1 n) (l := l))
    rw [List.length_append] at this; omega
  obtain ⟨e1, e2⟩ := tw_take (fun f : Fl => ltB f.1 n) l
  -- what comes behind the first loop
  have fin : i = (l.takeWhile fun f => ltB f.1 n).length → True := fun _ => trivial
  by_cases c2 : (i : Int) < l.length
  · obtain ⟨f, hf⟩ := get_lt c2
    have pi : (0 : Int) ≤ i := by omega
    obtain ⟨t1, t2⟩ := tw_get _ l i f hf p1
    cases c3 : ltB f.1 n with
    | true =>
      have b3 : Op.bytesLess f.1.toList n.toList = true := c3
      have := t1 c3
      simp +contextual (maxSteps := 2000000) (disch := ((try unfold LIM at *); omega)) only [↓bcase_true, ↓bcase_false, WA, simprocAttr, wrap_i64, List.length_map, c2, hf, pi, fV, b3, cast_succ]
      exact fun _ => ⟨i + 1, ⟨this, by omega⟩, rfl⟩
    | false =>
      have b3 : Op.bytesLess f.1.toList n.toList = false := c3
      have ei := t2 c3
      have ni : l.take i = l.takeWhile fun f => ltB f.1 n := by rw [ei]; exact e1
      have nd : l.dropWhile (fun f => ltB f.1 n) = f :: l.drop (i + 1) := by rw [← drop_cons hf, ei]; exact e2.symm
      have hA : (l.take i).length = i := by rw [List.length_take]; omega
      have hil : (i : Int) ≤ l.length := by omega
      have r0 : i * 32 ≤ 140737488355328 ∧ i ≤ LIM ∧ (i + 1) * 32 ≤ 140737488355328 ∧ i + 1 ≤ LIM := by unfold LIM; omega
      by_cases c4 : f.1 = n
      · have b4 : Op.bytesLess n.toList n.toList = false := c4 ▸ b3
        have hB : List.take (l.length - (i + 1)) (l.drop (i + 1)) = l.drop (i + 1) := List.take_of_length_le (by simp)
        have hBl : (l.drop (i + 1)).length = l.length - (i + 1) := by simp
        have r1 : (i + 1 + (l.length - (i + 1))) * 32 ≤ 140737488355328 ∧ i + 1 + (l.length - (i + 1)) ≤ LIM := by unfold LIM; omega
        have hp : putS l n d = l.take i ++ [(n, d)] ++ l.drop (i + 1) := by simp [putS, nd, c4, ni]
        have hc : List.map fV (l.take i) ++ [[V.s (.string n), V.s (.string d)]] ++ List.map fV (l.drop (i + 1)) = (putS l n d).map fV := by rw [hp]; simp [fV]
        have hn : i + 1 + (l.length - (i + 1)) = (putS l n d).length := by rw [hp]; simp; omega
        rw [hn] at r1
        have pk : (0 : Int) ≤ (((i + 1) : Nat) : Int) ∧ (((i + 1) : Nat) : Int) ≤ l.length := by omega
        simp +contextual (maxSteps := 2000000) (disch := ((try unfold LIM at *); omega)) only [↓bcase_true, ↓bcase_false, WA, simprocAttr, wrap_i64, List.length_map, c2, hf, fV, b4, c4, cast_succ, Nat.sub_zero, ← List.map_take, ← List.map_drop, hA, hil, pk, r0, leafs_map fV_ok, hB, hBl, r1, takeTo, List.length_append, hc, hn, fV_frz, Nat.not_lt_zero, pi, List.take_length]
      · have hB : List.take (l.length - i) (l.drop i) = l.drop i := List.take_of_length_le (by simp)
        have hBl : (l.drop i).length = l.length - i := by simp
        have r1 : (i + 1 + (l.length - i)) * 32 ≤ 140737488355328 ∧ i + 1 + (l.length - i) ≤ LIM := by unfold LIM; omega
        have hp : putS l n d = l.take i ++ [(n, d)] ++ l.drop i := by rw [drop_cons hf]; simp [putS, nd, c4, ni]
        have hc : List.map fV (l.take i) ++ [[V.s (.string n), V.s (.string d)]] ++ List.map fV (l.drop i) = (putS l n d).map fV := by rw [hp]; simp [fV]
        have hn : i + 1 + (l.length - i) = (putS l n d).length := by rw [hp]; simp; omega
        rw [hn] at r1
        have pk : (0 : Int) ≤ ((i : Nat) : Int) ∧ ((i : Nat) : Int) ≤ l.length := by omega
        simp +contextual (maxSteps := 2000000) (disch := ((try unfold LIM at *); omega)) only [↓bcase_true, ↓bcase_false, WA, simprocAttr, wrap_i64, List.length_map, c2, hf, fV, b3, c4, cast_succ, Nat.sub_zero, ← List.map_take, ← List.map_drop, hA, hil, pk, r0, leafs_map fV_ok, hB, hBl, r1, takeTo, List.length_append, hc, hn, fV_frz, Nat.not_lt_zero, pi, List.take_length]
  · have e : i = l.length := by omega
    have pi : (0 : Int) ≤ i := by omega
    have ni : l.take i = l.takeWhile fun f => ltB f.1 n := by rw [show i = (l.takeWhile fun f => ltB f.1 n).length by omega]; exact e1
    have nd : l.dropWhile (fun f => ltB f.1 n) = [] := by rw [← e2]; exact List.drop_eq_nil_of_le (by omega)
    have hA : (l.take i).length = i := by rw [List.length_take]; omega
    have hil : (i : Int) ≤ l.length := by omega
    have r0 : i * 32 ≤ 140737488355328 ∧ i ≤ LIM ∧ (i + 1) * 32 ≤ 140737488355328 ∧ i + 1 ≤ LIM := by unfold LIM; omega
    have hB : List.take (l.length - i) (l.drop i) = l.drop i := List.take_of_length_le (by simp)
    have hBl : (l.drop i).length = l.length - i := by simp
    have r1 : (i + 1 + (l.length - i)) * 32 ≤ 140737488355328 ∧ i + 1 + (l.length - i) ≤ LIM := by unfold LIM; omega
    have hp : putS l n d = l.take i ++ [(n, d)] ++ l.drop i := by rw [List.drop_eq_nil_of_le (show l.length ≤ i by omega)]; simp [putS, nd, ni]
    have hc : List.map fV (l.take i) ++ [[V.s (.string n), V.s (.string d)]] ++ List.map fV (l.drop i) = (putS l n d).map fV := by rw [hp]; simp [fV]
    have hn : i + 1 + (l.length - i) = (putS l n d).length := by rw [hp]; simp; omega
    rw [hn] at r1
    have pk : (0 : Int) ≤ ((i : Nat) : Int) ∧ ((i : Nat) : Int) ≤ l.length := by omega
    simp +contextual (maxSteps := 2000000) (disch := ((try unfold LIM at *); omega)) only [↓bcase_true, ↓bcase_false, WA, simprocAttr, wrap_i64, List.length_map, c2, fV, cast_succ, Nat.sub_zero, ← List.map_take, ← List.map_drop, hA, hil, pk, r0, leafs_map fV_ok, hB, hBl, r1, takeTo, List.length_append, hc, hn, fV_frz, Nat.not_lt_zero, pi, List.take_length]
end Go.Proofs.Ytpcgnmoogjahbaa
/- part D5 -/
set_option linter.unusedVariables false
set_option linter.unusedSimpArgs false
set_option maxRecDepth 100000
namespace Go.Proofs.Ytpcgnmoogjahbaa
open Go Go.W Go.RowKit
def doS (l : List Fl) (o : Opn) : List Fl :=
  if o.1 = 1 then putS l o.2.1 o.2.2
  else if o.1 = 2 then putS l o.2.1 ((getS l o.2.1).1 ++ o.2.2)
  else if o.1 = 3 ∧ (getS l o.2.1).2 = true then putS (dropS l o.2.1) o.2.2 (getS l o.2.1).1
  else if o.1 = 4 then dropS l o.2.1
  else l
theorem walk71 (l : List Fl) (o : Opn) (hl : l.length ≤ 1048576) (hs : (getS l o.2.1).1.size + o.2.2.size ≤ 9223372036854775807) : PureV C 71 [.f 2 (l.map fV), .agg (oV o)] (.f 2 ((doS l o).map fV)) := by
  refine pure_of_run Try.func71 rfl (by kernel_rfl) (by kernel_rfl) (by simp) (fun _ => rfl) (fun _ => rfl) 6 1000 ?_
  obtain ⟨k, n, d⟩ := o
  simp +contextual (maxSteps := 2000000) (disch := ((try unfold LIM at *); omega)) only [↓bcase_true, ↓bcase_false, WA, simprocAttr, wrap_i64, oV]
  refine CallThen.pure (walk97 l n) 1000 ?_
  by_cases c1 : k = 1
  · simp +contextual (maxSteps := 2000000) (disch := ((try unfold LIM at *); omega)) only [↓bcase_true, ↓bcase_false, WA, simprocAttr, wrap_i64, c1, doS]
    refine CallThen.pure (walk106 l n d hl) 1000 ?_
    simp +contextual (maxSteps := 2000000) (disch := ((try unfold LIM at *); omega)) only [↓bcase_true, ↓bcase_false, WA, simprocAttr, wrap_i64]
  by_cases c2 : k = 2
  · have hs' : (getS l n).1.size + d.size ≤ LIM := hs
    simp +contextual (maxSteps := 2000000) (disch := ((try unfold LIM at *); omega)) only [↓bcase_true, ↓bcase_false, WA, simprocAttr, wrap_i64, c2, doS, hs']
    refine CallThen.pure (walk106 l n _ hl) 1000 ?_
    simp +contextual (maxSteps := 2000000) (disch := ((try unfold LIM at *); omega)) only [↓bcase_true, ↓bcase_false, WA, simprocAttr, wrap_i64]
  by_cases c3 : k = 3
  · cases c4 : (getS l n).2 with
    | true =>
      simp +contextual (maxSteps := 2000000) (disch := ((try unfold LIM at *); omega)) only [↓bcase_true, ↓bcase_false, WA, simprocAttr, wrap_i64, c3, doS, c4]
      refine DrawThen.of 1000 [] (.old 0 (.old 1 (.old 2 (.old 4 (.old 5 (.old 6 (.go 3 (.go 7 (.new 8 .done))))))))) (panFree_pure _ _ _) (by kernel_rfl) (by kernel_rfl) (by kernel_rfl) ?_
      simp +contextual (maxSteps := 2000000) (disch := ((try unfold LIM at *); omega)) only [↓bcase_true, ↓bcase_false, WA, simprocAttr, wrap_i64]
      refine DCall.pure (walk107 l n hl) 1000 (.go 7 (.new 8 .done)) (by kernel_rfl) ?_
      simp +contextual (maxSteps := 2000000) (disch := ((try unfold LIM at *); omega)) only [↓bcase_true, ↓bcase_false, WA, simprocAttr, wrap_i64]
      refine DCall.pure (walk106 (dropS l n) d (getS l n).1 (Nat.le_trans (len_drop l n) hl)) 1000 (.new 8 .done) (by kernel_rfl) ?_
      simp +contextual (maxSteps := 2000000) (disch := ((try unfold LIM at *); omega)) only [↓bcase_true, ↓bcase_false, WA, simprocAttr, wrap_i64]
    | false =>
      have q1 : l.length * 32 ≤ 140737488355328 ∧ l.length ≤ LIM := by unfold LIM; omega
      simp +contextual (maxSteps := 2000000) (disch := ((try unfold LIM at *); omega)) only [↓bcase_true, ↓bcase_false, WA, simprocAttr, wrap_i64, c3, doS, c4, leafs_map fV_ok, List.length_map, q1, takeTo, fV_frz, Nat.not_lt_zero, List.take_length]
  by_cases c5 : k = 4
  · simp +contextual (maxSteps := 2000000) (disch := ((try unfold LIM at *); omega)) only [↓bcase_true, ↓bcase_false, WA, simprocAttr, wrap_i64, c5, doS]
    refine CallThen.pure (walk107 l n hl) 1000 ?_
    simp +contextual (maxSteps := 2000000) (disch := ((try unfold LIM at *); omega)) only [↓bcase_true, ↓bcase_false, WA, simprocAttr, wrap_i64]
  · have q1 : l.length * 32 ≤ 140737488355328 ∧ l.length ≤ LIM := by unfold LIM; omega
    simp +contextual (maxSteps := 2000000) (disch := ((try unfold LIM at *); omega)) only [↓bcase_true, ↓bcase_false, WA, simprocAttr, wrap_i64, c1, c2, c3, c5, doS, leafs_map fV_ok, List.length_map, q1, takeTo, fV_frz, Nat.not_lt_zero, List.take_length]
end Go.Proofs.Ytpcgnmoogjahbaa
/- part D6 -/
set_option linter.unusedVariables false
set_option linter.unusedSimpArgs false
set_option maxRecDepth 100000
namespace Go.Proofs.Ytpcgnmoogjahbaa
open Go Go.W Go.RowKit
def leB (a b : ByteArray) : Bool := Op.bytesLess a.toList b.toList || decide (a = b)
def ascS : List Fl → Bool
  | a :: b :: r => !(leB b.1 a.1) && ascS (b :: r)
  | _ => true
theorem ascS_short {l : List Fl} (h : l.length ≤ 1) : ascS l = true := by
  match l with
  | [] => rfl
  | [_] => rfl
  | _ :: _ :: _ => simp at h
def okS : List Fl → List Opn → Int → Bool
  | _, [], _ => true
  | l, o :: r, cap => if o.1 < 1 ∨ 4 < o.1 then false else if fits (doS l o) cap then okS (doS l o) r cap else false
def diskOk (fl : List Fl) (ol : List Opn) (cap : Int) : Bool :=
  if cap < 0 ∨ 1000000 < cap ∨ 2000 < ol.length ∨ ¬ fits fl cap then false else if ascS fl = false then false else okS fl ol cap
theorem sizeF_drop (l : List Fl) (n : ByteArray) : sizeF (dropS l n) ≤ sizeF l := by
  unfold dropS
  induction l with
  | nil => simp
  | cons f r ih =>
    rw [List.filter_cons]
    split
    · simp only [sizeF]; omega
    · simp only [sizeF]; omega
theorem sizeF_get (l : List Fl) (n : ByteArray) : (getS l n).1.size ≤ sizeF l := by
  induction l with
  | nil => exact Nat.zero_le _
  | cons f r ih =>
    rw [getS]; split
    · simp only [sizeF]; omega
    · simp only [sizeF]; omega
theorem sizeF_put (l : List Fl) (n d : ByteArray) : sizeF (putS l n d) ≤ sizeF l + n.size + d.size := by
  have h := List.takeWhile_append_dropWhile (p := fun f : Fl => ltB f.1 n) (l := l)
  have h2 : sizeF l = sizeF (l.takeWhile fun f => ltB f.1 n) + sizeF (l.dropWhile fun f => ltB f.1 n) := by rw [← sizeF_app, h]
  unfold putS
  rw [sizeF_app, h2, sizeF]
  cases hd : l.dropWhile (fun f => ltB f.1 n) with
  | nil => simp only [sizeF]; omega
  | cons f r =>
    simp only
    split <;> simp only [sizeF] <;> omega
theorem len_put (l : List Fl) (n d : ByteArray) : (putS l n d).length ≤ l.length + 1 := by
  have h := List.takeWhile_append_dropWhile (p := fun f : Fl => ltB f.1 n) (l := l)
  have h2 : l.length = (l.takeWhile fun f => ltB f.1 n).length + (l.dropWhile fun f => ltB f.1 n).length := by rw [← List.length_append, h]
  unfold putS
  rw [List.length_append, List.length_cons, h2]
  cases hd : l.dropWhile (fun f => ltB f.1 n) with
  | nil => simp
  | cons f r =>
    simp only
    split <;> simp only [List.length_cons] <;> omega
theorem do_bound (l : List Fl) (o : Opn) : sizeF (doS l o) ≤ 2 * sizeF l + o.2.1.size + o.2.2.size ∧ (doS l o).length ≤ l.length + 1 := by
  have g := sizeF_get l o.2.1
  unfold doS
  split
  · have := sizeF_put l o.2.1 o.2.2; have := len_put l o.2.1 o.2.2; omega
  · split
    · have := sizeF_put l o.2.1 ((getS l o.2.1).1 ++ o.2.2); have := len_put l o.2.1 ((getS l o.2.1).1 ++ o.2.2)
      rw [ByteArray.size_append] at *
      omega
    · split
      · have := sizeF_put (dropS l o.2.1) o.2.2 (getS l o.2.1).1; have := len_put (dropS l o.2.1) o.2.2 (getS l o.2.1).1
        have := sizeF_drop l o.2.1; have := len_drop l o.2.1; omega
      · split
        · have := sizeF_drop l o.2.1; have := len_drop l o.2.1; omega
        · omega

theorem cast_pred (j : Nat) : ((j + 1 : Nat) : Int) - 1 = (j : Int) := by omega
def oneO (o : Opn) : Nat := o.2.1.size + o.2.2.size
theorem walk31 (fl : List Fl) (ol : List Opn) (cap : Int) (hf : fl.length ≤ 1048576) (ho : ol.length ≤ 1048576) (hb : sizeF fl ≤ 1048576) (hs : ∀ o ∈ ol, oneO o ≤ 1048576) :
    PureV C 31 [.agg (dV fl ol cap)] (.s (.bool (diskOk fl ol cap))) := by
  refine pure_of_run Try.func31 rfl (by kernel_rfl) (by kernel_rfl) (by simp) (fun _ => rfl) (fun _ => rfl) 6 1000 ?_
  by_cases c1 : cap < 0
  · simp +contextual (maxSteps := 2000000) (disch := ((try unfold LIM at *); omega)) only [↓bcase_true, ↓bcase_false, WA, simprocAttr, wrap_i64, dV, c1, diskOk]
  by_cases c2 : 1000000 < cap
  · simp +contextual (maxSteps := 2000000) (disch := ((try unfold LIM at *); omega)) only [↓bcase_true, ↓bcase_false, WA, simprocAttr, wrap_i64, dV, c1, c2, diskOk]
  by_cases c3 : (2000 : Int) < ol.length
  · have c3' : 2000 < ol.length := by omega
    simp +contextual (maxSteps := 2000000) (disch := ((try unfold LIM at *); omega)) only [↓bcase_true, ↓bcase_false, WA, simprocAttr, wrap_i64, dV, c1, c2, c3, c3', diskOk, List.length_map]
  have c3' : ¬ 2000 < ol.length := by omega
  simp +contextual (maxSteps := 2000000) (disch := ((try unfold LIM at *); omega)) only [↓bcase_true, ↓bcase_false, WA, simprocAttr, wrap_i64, dV, c1, c2, c3, c3', List.length_map]
  intro _
  refine CallThen.pure (walk70 fl cap (by omega)) 1000 ?_
  by_cases c4 : fits fl cap
  rotate_left
  · simp +contextual (maxSteps := 2000000) (disch := ((try unfold LIM at *); omega)) only [↓bcase_true, ↓bcase_false, WA, simprocAttr, wrap_i64, dV, c1, c2, c3, c3', c4, diskOk]
  simp +contextual (maxSteps := 2000000) (disch := ((try unfold LIM at *); omega)) only [↓bcase_true, ↓bcase_false, WA, simprocAttr, wrap_i64, dV, c1, c2, c3, c3', c4]
  refine LoopThen.pure (ι := Nat) (fun j => j ≤ fl.length ∧ ascS (fl.drop j) = ascS fl) (fun j => keepL [(1, .pd (dV fl ol cap)), (3, .s (.int .i64 ((j + 1 : Nat) : Int)))]) (fun j => fl.length - j) 6 [1, 3] 1000 1000 ⟨0, ⟨Nat.zero_le _, rfl⟩, by simp +contextual (maxSteps := 2000000) (disch := ((try unfold LIM at *); omega)) only [↓bcase_true, ↓bcase_false, WA, simprocAttr, wrap_i64, dV]⟩ ?_
  rintro j ⟨p1, p2⟩
  by_cases d2 : ((j + 1 : Nat) : Int) < fl.length
  · obtain ⟨a, ha⟩ := get_lt (show (j : Int) < fl.length by omega)
    obtain ⟨b, hb'⟩ := get_lt d2
    have key : ascS fl = (!(leB b.1 a.1) && ascS (fl.drop (j + 1))) := by rw [← p2, drop_cons ha, drop_cons hb', ascS]
    have pj : (0 : Int) ≤ ((j + 1 : Nat) : Int) ∧ (0 : Int) ≤ (j : Int) := by omega
    simp +contextual (maxSteps := 2000000) (disch := ((try unfold LIM at *); omega)) only [↓bcase_true, ↓bcase_false, WA, simprocAttr, wrap_i64, dV, List.length_map, d2]
    intro hl
    refine DrawThen.of 1000 [] (.old 0 (.old 1 (.old 2 (.old 3 (.old 4 (.old 5 (.old 6 (.old 7 (.old 8 (.old 9 (.old 10 (.old 11 (.old 12 (.old 13 .done)))))))))))))) (panFree_loopP (panFree_pure _ _ _)) (by kernel_rfl) (by kernel_rfl) (by kernel_rfl) ?_
    cases c5 : leB b.1 a.1 with
    | true =>
      have b5 : (Op.bytesLess b.1.toList a.1.toList || decide (b.1 = a.1)) = true := c5
      rw [c5] at key
      simp +contextual (maxSteps := 2000000) (disch := ((try unfold LIM at *); omega)) only [↓bcase_true, ↓bcase_false, WA, simprocAttr, wrap_i64, dV, List.length_map, cast_pred, ha, hb', pj, fV, b5, diskOk, c1, c2, c3', c4, key, or_self]
    | false =>
      have b5 : (Op.bytesLess b.1.toList a.1.toList || decide (b.1 = a.1)) = false := c5
      rw [c5] at key
      simp +contextual (maxSteps := 2000000) (disch := ((try unfold LIM at *); omega)) only [↓bcase_true, ↓bcase_false, WA, simprocAttr, wrap_i64, dV, List.length_map, cast_pred, ha, hb', pj, fV, b5, cast_succ]
      refine ⟨j + 1, ⟨⟨by omega, ?_⟩, by omega⟩, rfl⟩
      rw [key]; rfl
  · have asc : ascS fl = true := by rw [← p2]; exact ascS_short (by simp; omega)
    have hd : diskOk fl ol cap = okS fl ol cap := by simp [diskOk, c1, c2, c3', c4, asc]
    have q1 : fl.length * 32 ≤ 140737488355328 ∧ fl.length ≤ LIM := by unfold LIM; omega
    simp +contextual (maxSteps := 2000000) (disch := ((try unfold LIM at *); omega)) only [↓bcase_true, ↓bcase_false, WA, simprocAttr, wrap_i64, dV, List.length_map, d2, leafs_map fV_ok, q1, takeTo, hd]
    intro cap' hc _
    refine LoopThen.pure (ι := Nat × List Fl) (fun p => p.1 ≤ ol.length ∧ fits p.2 cap ∧ okS p.2 (ol.drop p.1) cap = okS fl ol cap) (fun p => keepL [(1, .pd (dV fl ol cap)), (4, .f 2 (p.2.map fV)), (5, .s (.int .i64 p.1))]) (fun p => ol.length - p.1) 6 [1, 4, 5] 1000 1000
      ⟨(0, fl), ⟨Nat.zero_le _, c4, rfl⟩, by simp +contextual (maxSteps := 2000000) (disch := ((try unfold LIM at *); omega)) only [↓bcase_true, ↓bcase_false, WA, simprocAttr, wrap_i64, dV, fV_frz, Nat.not_lt_zero, List.length_map, List.take_length]⟩ ?_
    rintro ⟨i, l⟩ ⟨p1, p3, p2⟩
    by_cases d3 : (i : Int) < ol.length
    · obtain ⟨o, hoo⟩ := get_lt d3
      have pi : (0 : Int) ≤ i := by omega
      have key : okS fl ol cap = if o.1 < 1 ∨ 4 < o.1 then false else if fits (doS l o) cap then okS (doS l o) (ol.drop (i + 1)) cap else false := by rw [← p2]; simp only [drop_cons hoo, okS]
      have f1 : l.length ≤ 20 := p3.1
      have f2 : (sizeF l : Int) ≤ cap := p3.2
      have b1 := do_bound l o
      have b2 := sizeF_get l o.2.1
      have b3 := hs o (List.mem_of_getElem? hoo)
      simp only [oneO] at b3
      by_cases e1 : o.1 < 1
      · simp +contextual (maxSteps := 2000000) (disch := ((try unfold LIM at *); omega)) only [↓bcase_true, ↓bcase_false, WA, simprocAttr, wrap_i64, dV, List.length_map, d3, hoo, pi, oV, e1, key]
      by_cases e2 : 4 < o.1
      · simp +contextual (maxSteps := 2000000) (disch := ((try unfold LIM at *); omega)) only [↓bcase_true, ↓bcase_false, WA, simprocAttr, wrap_i64, dV, List.length_map, d3, hoo, pi, oV, e1, e2, key]
      have e3 : ¬ (o.1 < 1 ∨ 4 < o.1) := by omega
      rw [if_neg e3] at key
      simp +contextual (maxSteps := 2000000) (disch := ((try unfold LIM at *); omega)) only [↓bcase_true, ↓bcase_false, WA, simprocAttr, wrap_i64, dV, List.length_map, d3, hoo, pi, oV, e1, e2]
      intro _
      refine CallThen.pure (walk71 l o (by omega) (by omega)) 1000 ?_
      simp +contextual (maxSteps := 2000000) (disch := ((try unfold LIM at *); omega)) only [↓bcase_true, ↓bcase_false, WA, simprocAttr, wrap_i64, dV]
      refine CallThen.pure (walk70 (doS l o) cap (by omega)) 1000 ?_
      by_cases e4 : fits (doS l o) cap
      · rw [if_pos e4] at key
        simp +contextual (maxSteps := 2000000) (disch := ((try unfold LIM at *); omega)) only [↓bcase_true, ↓bcase_false, WA, simprocAttr, wrap_i64, dV, e4, cast_succ]
        exact ⟨(i + 1, doS l o), ⟨⟨by omega, e4, key.symm⟩, by omega⟩, rfl⟩
      · rw [if_neg e4] at key
        simp +contextual (maxSteps := 2000000) (disch := ((try unfold LIM at *); omega)) only [↓bcase_true, ↓bcase_false, WA, simprocAttr, wrap_i64, dV, e4, key]
    · have e : i = ol.length := by simp at p1; omega
      subst e
      rw [List.drop_length, okS] at p2
      simp +contextual (maxSteps := 2000000) (disch := ((try unfold LIM at *); omega)) only [↓bcase_true, ↓bcase_false, WA, simprocAttr, wrap_i64, dV, List.length_map, d3, ← p2]
end Go.Proofs.Ytpcgnmoogjahbaa
/- part W28 -/
set_option linter.unusedVariables false
set_option linter.unusedSimpArgs false
namespace Go.W
open Go Go.RowKit
section
variable {C : Cx} {N n0 m : Nat} {Q : QT} {k : List It} {τ : Tau} {h : H}
/-- A loop that's left in its first round. -/
def loopZ (C : Cx) (N n0 m : Nat) (Q : QT) (k : List It) : QT
  | .normal, _, _ => False
  | .exit id, τ, h => exitK (Run C N n0 m Q) Q id τ h (popTo id k)
  | .ret, τ, h => Q .ret τ h
  | .pan v, τ, h => Q (.pan v) τ h
theorem loopZ_exit (id : Nat) : loopZ C N n0 m Q k (.exit id) τ h = exitK (Run C N n0 m Q) Q id τ h (popTo id k) := rfl
theorem loopZ_ret : loopZ C N n0 m Q k .ret τ h = Q .ret τ h := rfl
theorem loopZ_pan (v : V) : loopZ C N n0 m Q k (.pan v) τ h = Q (.pan v) τ h := rfl
theorem panFree_loopZ (hQ : PanFree Q) : PanFree (loopZ C N n0 m Q k) := fun v τ τ' h q => hQ v τ τ' h q
theorem LoopThen.zero {body : Code} (m n : Nat) (hr : Run C N n0 n (loopZ C N n0 m Q k) [.code body] τ h) : LoopThen C N n0 Q body k τ h := by
  intro hb hk
  refine WC.loop (fun τ' h' => τ' = τ ∧ h' = h) (fun _ _ => 0) (Goes.refl ⟨rfl, rfl⟩) fun τ' h' hI => ?_
  obtain ⟨rfl, rfl⟩ := hI
  have := Run_sound n _ [.code body] τ' h' (by simp [itOk, hb]) hr
  refine WC.mono this fun x τ' h' q => ?_
  cases x with
  | normal => exact q.elim
  | exit id =>
    refine semK_exit ?_
    simp only [SemK, loopZ] at q
    cases hp : popTo id k with
    | none => rw [hp] at q; exact q
    | some k' => rw [hp] at q; exact Run_sound m Q k' τ' h' (popTo_ok hp hk) q
  | ret => exact semK_ret q
  | pan v => exact semK_pan q
end
set_option linter.all false in
noncomputable def WB6 := And.intro (And.intro @loopZ_exit @loopZ_ret) @loopZ_pan
end Go.W
/- part W29 -/
set_option linter.unusedVariables false
set_option linter.unusedSimpArgs false
namespace Go.W
open Go Go.RowKit

/-! ### copy and clear on blocks of one's own -/
def putAt (els : List (List V)) (off : Nat) (news : List (List V)) : List (List V) := els.take off ++ news ++ els.drop (off + news.length)
section
variable {S : Nat → Prop} {w0 w : World} {φ : Phi} {h : H} {F : Nat → Fp} {C : Cx}

theorem leafs_take {els : List (List V)} (h : leafs els = true) (k : Nat) : leafs (els.take k) = true := by
  simp only [leafs, List.all_eq_true] at *
  exact fun el he => h el (List.mem_of_mem_take he)
theorem leafs_drop {els : List (List V)} (h : leafs els = true) (k : Nat) : leafs (els.drop k) = true := by
  simp only [leafs, List.all_eq_true] at *
  exact fun el he => h el (List.mem_of_mem_drop he)

/-- Elements are written into a row, perhaps beyond those that are told. -/
theorem RelF.putAt (R : RelF S w0 φ h w F) {b k n cap off : Nat} {els news : List (List V)} {vals : List Value} (hb : h[b]? = some ⟨els, n, cap, true⟩) (hp : φ.m b = some (some k, n)) (hle : leafs els = true) (hln : leafs news = true)
    (hv : All2 (RelC φ) news.flatten vals) (hel : ∀ el ∈ news, el.length = n) (hoff : off ≤ els.length) (hcap : off + news.length ≤ cap) (hlim : off + news.length ≤ LIM) :
    ∃ w', (storeCells ⟨k, off * n, none⟩ vals).run C.P w = .ok () w' ∧ Rel S w0 φ (h.set b ⟨Go.W.putAt els off news, n, cap, true⟩) w' := by
  obtain ⟨pp, g1, g2, g3, g4⟩ := R.place hb rfl
  simp only at g2 g3
  rw [hp] at g1; obtain ⟨rfl, -⟩ := Prod.mk.inj (Option.some.inj g1)
  obtain ⟨c0, ty, fq, y1, y2, y3, y4, y5⟩ := g4
  simp only at y2 y3 y4
  have hvl : vals.length = news.length * n := by rw [← hv.length, flat_len hel]
  have hfit : off * n + vals.length ≤ c0.size := by rw [hvl, y2, ← Nat.add_mul]; exact Nat.mul_le_mul_right _ hcap
  have hst := run_storeCells_at C.P k (off * n) ty vals 0 c0 w y1 (by simpa using hfit) (all2_oneCell (leafs_flat hln) hv)
  simp only [Nat.add_zero] at hst
  have hh := setRow_heap w k c0 (c0.toList.take (off * n) ++ vals ++ c0.toList.drop (off * n + vals.length)).toArray ty (0, 0) y1
  have gr : w.grownBy (w.setRow k (c0.toList.take (off * n) ++ vals ++ c0.toList.drop (off * n + vals.length)).toArray) (some k) :=
    ⟨rfl, rfl, rfl, by simp, fun j _ hj => setRow_other w k j _ (fun e => hj (by rw [e]))⟩
  have hnw : ∀ el ∈ Go.W.putAt els off news, el.length = n := fun el he => by
    simp only [Go.W.putAt, List.mem_append] at he
    rcases he with (q | q) | q
    · exact g2 el (List.mem_of_mem_take q)
    · exact hel el q
    · exact g2 el (List.mem_of_mem_drop q)
  have hlen : (Go.W.putAt els off news).length = off + news.length + (els.length - (off + news.length)) := by
    simp only [Go.W.putAt, List.length_append, List.length_take, List.length_drop]; omega
  -- the three parts
  obtain ⟨f1, f2, _, ht⟩ := y4.take off
  have a1 := lss_cells ht (leafs_flat (leafs_take hle off))
  have l1 : (els.take off).length = off := by rw [List.length_take]; omega
  rw [l1] at a1
  obtain ⟨f3, hd⟩ := y4.dropN (off + news.length)
  have a3 := lss_cells hd (leafs_flat (leafs_drop hle (off + news.length)))
  rw [List.length_drop] at a3
  have all := (a1.append hv).append a3
  have hfl : (Go.W.putAt els off news).flatten = (els.take off).flatten ++ news.flatten ++ (els.drop (off + news.length)).flatten := by simp [Go.W.putAt]
  rw [← hfl] at all
  have hls := lss_all2 (w := w) hnw all
  refine ⟨_, hst, R.write (B' := ⟨Go.W.putAt els off news, n, cap, true⟩) (fq' := []) hb rfl hp y5 gr rfl rfl hh ?_ ?_ ?_ hnw (List.nil_sublist _) (Lss.pre (fun j hj => ?_) hls)⟩
  · simp; rw [← y2]; omega
  · show (Go.W.putAt els off news).length ≤ cap
    rw [hlen]; omega
  · show (Go.W.putAt els off news).length ≤ LIM
    rw [hlen]; omega
  · -- the cells agree where they are told
    show (c0.toList.take (off * n) ++ vals ++ c0.toList.drop (off * n + vals.length))[j]? = _
    have e : off * n + vals.length = (off + news.length) * n := by rw [hvl, Nat.add_mul]
    rw [e]
    have hj' : j < (off + news.length) * n + (els.length - (off + news.length)) * n := by rw [hlen, Nat.add_mul] at hj; exact hj
    have hpre : (c0.toList.take (off * n) ++ vals).length = (off + news.length) * n := by
      rw [← e, List.length_append, List.length_take, Array.length_toList]; omega
    generalize hA : c0.toList.take (off * n) ++ vals = A at hpre ⊢
    by_cases q : j < (off + news.length) * n
    · rw [List.getElem?_append_left (by rw [hpre]; exact q), List.getElem?_append_left (by rw [hpre]; exact q)]
    · rw [List.getElem?_append_right (by rw [hpre]; omega), List.getElem?_append_right (by rw [hpre]; omega), List.getElem?_take, hpre, if_pos (by omega)]

/-- What is copied: k elements from x on. -/
def Src (C : Cx) (h : H) (n k m : Nat) (news : List (List V)) (x : V) : Prop :=
  ∀ S w0 φ w F xv, RelF S w0 φ h w F → RelV φ x xv → (∀ w, (Builtin.lenOf xv).run C.P w = .ok m w) ∧ ∃ vals : List Value, All2 (RelC φ) news.flatten vals ∧ (Builtin.firstCells n k xv).run C.P w = .ok vals.toArray w
theorem Src.f {n k : Nat} {els : List (List V)} (hk : k ≤ els.length) (hl : leafs els = true) : Src C h n k els.length (els.take k) (.f n els) := by
  intro S w0 φ w F xv R r
  rcases f_rel r with ⟨rfl, q, rfl⟩ | ⟨b, off, cap, rfl, h1, h2, h3⟩
  · obtain rfl : k = 0 := by simpa using hk
    refine ⟨fun w => by simp [Builtin.lenOf], [], by simp [All2], ?_⟩
    cases q with
    | none => simp [Builtin.firstCells]
    | some ad => exact run_firstCells_some (P := C.P) w n 0 ad 0 0 [] (by simp) (fun j v e => by simp at e)
  · have h4 := h3.take k
    obtain ⟨q1, vs, q2, q3⟩ := rz_flat h4
    have hl : vs.length = k * n := by rw [← q2.length, flat_len q1, List.length_take]; congr 1; omega
    exact ⟨fun w => by simp [Builtin.lenOf], vs, q2.mono fun _ _ => relC_of_rz, run_firstCells_some (P := C.P) w n k _ els.length cap vs hl (fun j v e => by rw [addr_add]; exact R.zok _ _ _ (q3 j v e))⟩
theorem Src.own {n k b off len cap : Nat} {news : List (List V)} (hk : k ≤ len) (hs : strideB (h[b]?) = some n) (he : elsOf off k (h[b]?) = some news) (hl : leafs news = true) : Src C h n k len news (.sl b off len cap) := by
  intro S w0 φ w F xv R r
  obtain ⟨p, n', hp, hle, hv⟩ : ∃ p n', φ.m b = some (p, n') ∧ len ≤ cap ∧ _ := r
  have hlen : ∀ w, (Builtin.lenOf xv).run C.P w = .ok len w := fun w => by
    cases p with
    | none => obtain ⟨⟨q, rfl⟩, rfl, _⟩ := hv; simp [Builtin.lenOf]
    | some a => simp only at hv; subst hv; simp [Builtin.lenOf]
  -- the same with the length k
  have key : ∃ xv', RelV φ (.sl b off k cap) xv' ∧ (Builtin.firstCells n k xv') = Builtin.firstCells n k xv := by
    cases p with
    | none =>
      obtain ⟨⟨q, rfl⟩, rfl, rfl, rfl⟩ := hv
      obtain rfl : k = 0 := by omega
      exact ⟨.slice q 0 0, ⟨none, n', hp, Nat.le_refl _, ⟨q, rfl⟩, rfl, rfl, rfl⟩, rfl⟩
    | some a => simp only at hv; subst hv; exact ⟨.slice (some ⟨a, off * n', none⟩) k cap, ⟨some a, n', hp, by omega, rfl⟩, rfl⟩
  obtain ⟨xv', r', e⟩ := key
  have hnews : newsOf h n (.sl b off k cap) = some news := by simp only [newsOf]; rw [if_pos hs]; exact he
  obtain ⟨_, hlen', vals, hv1, hv2, hv3⟩ := news_cells (P := C.P) R r' hnews hl
  have hnl : news.length = k := by
    unfold elsOf at he
    split at he
    · split at he
      · obtain rfl := Option.some.inj he; simp; omega
      · cases he
    · cases he
  rw [hnl] at hv3
  exact ⟨hlen, vals, hv1, by rw [← e]; exact hv3 w fun _ => rfl⟩

/-- copy into a block of one's own. -/
theorem CopyV.own {b off dlen dcap n cap m k : Nat} {t u e : TypeId} {els news : List (List V)} {x : V} (ht : tElem C.P t = some e) (hn : tSz C.P e = some n) (hb : h[b]? = some ⟨els, n, cap, true⟩)
    (hx : Src C h n k m news x) (hk : k = Nat.min m dlen) (hnl : news.length = k) (hel : ∀ el ∈ news, el.length = n) (hle : leafs els = true) (hln : leafs news = true) (hoff : off ≤ els.length) (hcap : off + k ≤ cap) (hlim : off + k ≤ LIM) :
    CopyV C h (.sl b off dlen dcap) x t u fun v h' => v = .s (.int .i64 k) ∧ h' = h.set b ⟨Go.W.putAt els off news, n, cap, true⟩ := by
  intro S w0 φ w dv xv ty ⟨F, R⟩ rd rx
  obtain ⟨p, n', hp, hdle, hv⟩ : ∃ p n', φ.m b = some (p, n') ∧ dlen ≤ dcap ∧ _ := rd
  obtain ⟨pp, g1, g2, g3, g4⟩ := R.place hb rfl
  simp only at g2 g3
  have g1' := g1
  rw [hp] at g1; obtain ⟨rfl, rfl⟩ := Prod.mk.inj (Option.some.inj g1)
  obtain ⟨hlen, vals, hv1, hv3⟩ := hx S w0 φ w F xv R rx
  have hu := underlying_of_tElem ht
  cases p with
  | none =>
    obtain ⟨⟨q, rfl⟩, rfl, rfl, rfl⟩ := hv
    obtain rfl : k = 0 := by rw [hk]; simp [Nat.min_def]
    obtain rfl : news = [] := List.eq_nil_of_length_eq_zero hnl
    have hv0 : vals = [] := by
      have := hv1.length; simp at this; exact List.eq_nil_of_length_eq_zero this.symm
    subst hv0
    have same : h.set b ⟨Go.W.putAt els 0 [], n', cap, true⟩ = h := by
      have : Go.W.putAt els 0 [] = els := by simp [Go.W.putAt]
      rw [this]
      obtain ⟨hlt, e⟩ := List.getElem?_eq_some_iff.1 hb
      rw [← e]; exact List.set_getElem_self hlt
    refine ⟨.int .i64 0, w, φ, .s (.int .i64 0), h, ?_, ⟨F, R⟩, ExtN.refl .., Nat.le_refl _, mk_s rfl, rfl, same.symm⟩
    have hm0 : Nat.min m 0 = 0 := by simp [Nat.min_def]
    cases q with
    | none => simp [Builtin.copy_, run_underlying hu, hlen, run_sz hn, hm0, hv3, goInt]
    | some ad => simp [Builtin.copy_, run_underlying hu, hlen, run_sz hn, hm0, hv3, goInt, storeCells]
  | some kb =>
    simp only at hv; subst hv
    obtain ⟨w', hst, R'⟩ := R.putAt (C := C) (off := off) hb hp hle hln hv1 hel hoff (by rw [hnl]; exact hcap) (by rw [hnl]; exact hlim)
    refine ⟨.int .i64 k, w', φ, .s (.int .i64 k), _, ?_, R', ExtN.refl .., by simp, mk_s rfl, rfl, rfl⟩
    have hk' : Nat.min m dlen = k := hk.symm
    simp [Builtin.copy_, run_underlying hu, hlen, run_sz hn, hk', hv3, hst, goInt]

theorem leafs_zero {z : List V} (hz : z.all cellOk = true) (len : Nat) : leafs (List.replicate len z) = true := by
  simp only [leafs, List.all_eq_true, List.mem_replicate]; rintro x ⟨_, rfl⟩; simpa using hz
theorem ofV1_ok {l : List Value} : (l.map ofV1).all cellOk = true := by
  simp only [List.all_map, List.all_eq_true, Function.comp]
  intro v _
  rcases ofV1_V v with ⟨v', e⟩ | e <;> rw [e] <;> rfl
/-- clear of a part of a block of one's own. -/
theorem ClearV.own {b off len dcap n cap : Nat} {t e : TypeId} {els : List (List V)} {z : List V} (ht : tElem C.P t = some e) (hz : tZ C.P e = some z) (hzl : z.length = n) (hb : h[b]? = some ⟨els, n, cap, true⟩)
    (hle : leafs els = true) (hoff : off ≤ els.length) (hcap : off + len ≤ cap) (hlim : off + len ≤ LIM) :
    ClearV C h (.sl b off len dcap) t fun v h' => v = .tup [] ∧ h' = h.set b ⟨Go.W.putAt els off (List.replicate len z), n, cap, true⟩ := by
  intro S w0 φ w dv ty ⟨F, R⟩ rd
  obtain ⟨p, n', hp, hdle, hv⟩ : ∃ p n', φ.m b = some (p, n') ∧ len ≤ dcap ∧ _ := rd
  obtain ⟨pp, g1, g2, g3, g4⟩ := R.place hb rfl
  simp only at g2 g3
  rw [hp] at g1; obtain ⟨rfl, rfl⟩ := Prod.mk.inj (Option.some.inj g1)
  have hu := underlying_of_tElem ht
  obtain ⟨zv, hzv, rfl, h5, hiz⟩ := run_zero hz
  have hzs : zv.cells.size = n' := by simpa using hzl
  have same : len = 0 → h.set b ⟨Go.W.putAt els off (List.replicate len (zv.cells.toList.map ofV1)), n', cap, true⟩ = h := fun e => by
    subst e
    have : Go.W.putAt els off (List.replicate 0 (zv.cells.toList.map ofV1)) = els := by simp [Go.W.putAt]
    rw [this]
    obtain ⟨hlt, e⟩ := List.getElem?_eq_some_iff.1 hb
    rw [← e]; exact List.set_getElem_self hlt
  have done0 : len = 0 → (∃ q c, dv = .slice q 0 c) → ∃ v w' φ' r h', (Builtin.clear_ #[t] ty #[dv]).run C.P w = .ok v w' ∧ Rel S w0 φ' h' w' ∧ ExtN S w0 h.length φ φ' ∧ h.length ≤ h'.length ∧ RelV φ' r v ∧ (r = .tup [] ∧ h' = h.set b ⟨Go.W.putAt els off (List.replicate len (zv.cells.toList.map ofV1)), n', cap, true⟩) := by
    rintro e ⟨q, c, rfl⟩
    refine ⟨.tuple #[], w, φ, .tup [], h, ?_, ⟨F, R⟩, ExtN.refl .., Nat.le_refl _, ⟨_, rfl, trivial⟩, rfl, (same e).symm⟩
    cases q <;> simp [Builtin.clear_, run_underlying hu]
  cases p with
  | none => obtain ⟨⟨q, rfl⟩, rfl, rfl, rfl⟩ := hv; exact done0 rfl ⟨q, 0, rfl⟩
  | some kb =>
    simp only at hv; subst hv
    by_cases h0 : len = 0
    · exact done0 h0 ⟨some ⟨kb, off * n', none⟩, dcap, by rw [h0]⟩
    · have hzc : (Builtin.zeroCells zv.cells len).toList = (List.replicate len zv.cells.toList).flatten := by
        have := rep_cells zv.cells zv.cells.size len rfl
        unfold Builtin.zeroCells
        rw [this]
      have hall : All2 (RelC φ) (List.replicate len (zv.cells.toList.map ofV1)).flatten (Builtin.zeroCells zv.cells len).toList := by
        rw [hzc, rep_flat]; exact all2_ofV1 (φ := φ) (all_rep h5 len)
      obtain ⟨w', hst, R'⟩ := R.putAt (C := C) (off := off) (news := List.replicate len (zv.cells.toList.map ofV1)) hb hp hle (leafs_zero ofV1_ok len) hall
        (fun el he => by rw [(List.mem_replicate.1 he).2]; simpa using hzs) hoff (by simpa using hcap) (by simpa using hlim)
      refine ⟨.tuple #[], w', φ, .tup [], _, ?_, R', ExtN.refl .., by simp, ⟨_, rfl, trivial⟩, rfl, rfl⟩
      obtain ⟨m, rfl⟩ : ∃ m, len = m + 1 := ⟨len - 1, by omega⟩
      simp [Builtin.clear_, run_underlying hu, hzv, hst]
end
end Go.W
/- part W30 -/
set_option linter.unusedVariables false
set_option linter.unusedSimpArgs false
namespace Go.W
open Go Go.RowKit

/-! ### A function that only reads may be handed what is one's own -/
/-- What it is does not hang on any memory. -/
def Flat (r : V) : Prop := ∀ φ φ' v, RelV φ r v → RelV φ' r v
theorem flat_s (a : Value) : Flat (.s a) := fun φ φ' v h => by obtain ⟨rfl, h1⟩ := s_rel h; exact mk_s h1
theorem all2_in {α β : Type} {R R' : α → β → Prop} : ∀ {xs : List α} {ys : List β}, (∀ x ∈ xs, ∀ y, R x y → R' x y) → All2 R xs ys → All2 R' xs ys
  | [], [], _, _ => trivial
  | x :: xs, y :: ys, h, a => ⟨h x (by simp) y a.1, all2_in (fun x' hx => h x' (by simp [hx])) a.2⟩
  | [], _ :: _, _, a => a.elim
  | _ :: _, [], _, a => a.elim
theorem flat_two (a b : Value) : Flat (.tup [.s a, .s b]) := fun φ φ' v h => by
  obtain ⟨l, rfl, r⟩ := h
  refine ⟨l, rfl, all2_in (fun x hx y q => ?_) r⟩
  simp only [List.mem_cons, List.not_mem_nil, or_false] at hx
  rcases hx with rfl | rfl
  · exact flat_s _ φ φ' y q
  · exact flat_s _ φ φ' y q
section
variable {C : Cx}
theorem PureV.borrow {f : Nat} {args args' : List V} {r : V} (p : PureV C f args r) (hr : Flat r) (d : Nat) (H : H) (ha : args = args'.map (Go.W.frz 0 d H)) : CallsV C f args' H fun res h' => res = .ret r ∧ h' = H := by
  intro S w0 φ vs w G R hargs
  obtain ⟨φ', R', E', _, m'⟩ := Arr.frz (n0 := 0) d S w0 φ w R (Nat.zero_le _)
  have R0 : Rel (fun _ => False) w ⟨fun _ => none, φ'.z⟩ [] w := by
    obtain ⟨F', R'⟩ := R'
    exact ⟨fun _ => [], Kept.refl _ _, fun _ _ => rfl, R'.zok, fun _ _ _ h => by simp at h, fun _ _ h => by simp at h, fun _ => List.nodup_nil, fun _ _ _ h => by simp at h, fun _ _ => rfl, fun b B h => by simp at h⟩
  have hargs' : All2 (RelV ⟨fun _ => none, φ'.z⟩) args vs.toList := by
    subst ha
    refine all2_map.2 (hargs.mono fun x v rv => ?_)
    have := m' x (Go.W.frz 0 d H x) v (.inr rfl) rv
    -- what is frozen refers to no block
    have hc := (frz_closed (fun b => H.length + b) 0 H d x).2.2.2
    rw [← hc] at this
    have hrn : Rn (fun b => H.length + b) φ' ⟨fun _ => none, φ'.z⟩ := ⟨fun b q e => by
      obtain ⟨F', R'⟩ := R'
      have hd := R'.dom (H.length + b) (by simp [killFrom])
      rw [hd] at e; exact absurd e (by simp), FLe.refl _⟩
    exact hrn.v this
  refine (p.calls (fun _ => False) w ⟨fun _ => none, φ'.z⟩ vs w (G.mono E'.z) R0 hargs').mono fun e w1 ⟨res, φ1, h1, q1, q2, q3, q4, q5, q6⟩ => ?_
  subst q5; subst q6
  obtain ⟨v, rfl, rv⟩ := q1
  obtain ⟨F1, R1⟩ := q2
  have gr : w.grownBy w1 none := ⟨R1.kept.os, R1.kept.tape, R1.kept.output, R1.kept.size, fun k hk _ => R1.kept.block k hk id⟩
  exact ⟨.ret r, φ, H, ⟨v, rfl, hr _ _ _ rv⟩, R.grow gr, ExtN.refl .., Nat.le_refl _, rfl, rfl⟩

variable {N n0 m : Nat} {Q : QT} {k : List It} {τ : Tau} {h : H}
theorem CallThen.borrow {f : Nat} {args args' : List V} {r : V} {d : Option Nat} (p : PureV C f args r) (hr : Flat r) (dd : Nat) (ha : args = args'.map (Go.W.frz 0 dd h)) (m : Nat) (hrun : Run C N n0 m Q k (upo d r τ) h) : CallThen C N n0 Q f args' d k τ h :=
  CallThen.of m (p.borrow hr dd h ha) fun res h' ⟨e1, e2⟩ => by subst e1; subst e2; exact hrun
theorem DCall.borrow {h0 : H} {exc : List Nat} {ops : Array Oper} {fuel : Nat} {listed : Array Bool} {f : Nat} {args args' : List V} {r : V} {d : Option Nat} {nw : List Nat} (p : PureV C f args r) (hr : Flat r) (dd : Nat) (ha : args = args'.map (Go.W.frz 0 dd (hide h0 exc h))) (m : Nat) (td : TD) (hd : drawOk ops [] listed td = true)
    (hrun : RunD C N n0 m Q k h0 exc ops fuel listed td (addN d nw) (upo d r τ) h) : DCall C N n0 Q h0 exc ops fuel listed k f args' d nw τ h :=
  DCall.of m td hd (p.borrow hr dd _ ha) fun res h' ⟨e1, e2⟩ => by
    subst e1; subst e2
    show RunD C N n0 m Q k h0 exc ops fuel listed td (addN d nw) (upo d r τ) (unmask h0.length exc 0 h (mask h0.length exc 0 h))
    rw [show_hide]; exact hrun

/-- A function on two texts that leaves the world alone. -/
theorem PureV.of_strings {f : Nat} {a b : ByteArray} {v : Value} (hv : one v = true) (he : enters C.P f = true) (hc : ∀ w, Calls C.P f #[.string a, .string b] w fun e w' => e = .returned v ∧ w' = w) : PureV C f [.s (.string a), .s (.string b)] (.s v) := by
  refine ⟨fun _ => rfl, fun _ => rfl, fun S w0 φ vs w G R ha => .inl ⟨he, ?_⟩⟩
  obtain ⟨l⟩ := vs
  match l, ha with
  | [x, y], ha =>
    obtain ⟨r1, r2, _⟩ := ha
    obtain ⟨rfl, -⟩ := s_rel r1
    obtain ⟨rfl, -⟩ := s_rel r2
    refine (hc w).mono fun e w' ⟨p1, p2⟩ => ?_
    subst p1 p2
    exact ⟨.ret (.s v), φ, [], ⟨v, rfl, mk_s hv⟩, R, ExtN.refl .., Nat.le_refl _, rfl, rfl⟩
end
end Go.W
/- part D7 -/
set_option linter.unusedVariables false
set_option linter.unusedSimpArgs false
namespace Go.Proofs.Ytpcgnmoogjahbaa
open Go Go.W Go.RowKit
set_option maxHeartbeats 1000000 in
set_option maxRecDepth 100000 in
theorem cmp133 (a b : ByteArray) (w : World) :
    Calls Try.prog 133 #[.string a, .string b] w fun e w' => e = .returned (.int .i64 (Lib.compareBytes a.data.toList b.data.toList)) ∧ w' = w := by
  go_enter Try.func133, Try.ntmps133
  go_wp2
  rw [run_callFunc_extern Try.func136 (by kernel_rfl) (by kernel_rfl) (by kernel_rfl) (e := Extern.BytealgCompare.compare) (by kernel_rfl), Lib.run_compareString]
  simp only [Result.andThen]
  rw [Oper.upon_value]
  go_wp2
  go_ret
  exact ⟨rfl, rfl⟩
set_option maxRecDepth 100000
def cmpB (a b : ByteArray) : Int := Lib.compareBytes a.data.toList b.data.toList
theorem walk133 (a b : ByteArray) : PureV C 133 [.s (.string a), .s (.string b)] (.s (.int .i64 (cmpB a b))) :=
  PureV.of_strings rfl (by kernel_rfl) (cmp133 a b)
theorem walk128 (a b : ByteArray) : PureV C 128 [.s (.string a), .s (.string b)] (.s (.int .i64 (cmpB a b))) := by
  refine pure_of_run Try.func128 rfl (by kernel_rfl) (by kernel_rfl) (by simp) (fun _ => rfl) (fun _ => rfl) 6 1000 ?_
  simp +contextual (maxSteps := 2000000) (disch := ((try unfold LIM at *); omega)) only [↓bcase_true, ↓bcase_false, WA, simprocAttr, wrap_i64]
  refine CallThen.pure (walk133 a b) 1000 ?_
  simp +contextual (maxSteps := 2000000) (disch := ((try unfold LIM at *); omega)) only [↓bcase_true, ↓bcase_false, WA, simprocAttr, wrap_i64]
theorem walk127 (f : Fl) (n : ByteArray) : PureV C 127 [.agg (fV f), .s (.string n)] (.s (.int .i64 (cmpB f.1 n))) := by
  refine pure_of_run Try.func127 rfl (by kernel_rfl) (by kernel_rfl) (by simp) (fun _ => rfl) (fun _ => rfl) 6 1000 ?_
  simp +contextual (maxSteps := 2000000) (disch := ((try unfold LIM at *); omega)) only [↓bcase_true, ↓bcase_false, WA, simprocAttr, wrap_i64, fV]
  refine CallThen.pure (walk128 f.1 n) 1000 ?_
  simp +contextual (maxSteps := 2000000) (disch := ((try unfold LIM at *); omega)) only [↓bcase_true, ↓bcase_false, WA, simprocAttr, wrap_i64]
theorem walk74 (a b c : Int) : PureV C 74 [.s (.int .i64 a), .s (.int .i64 b), .s (.int .i64 c)] (.s (.bool (decide (b ≤ a ∧ a ≤ c)))) := by
  refine pure_of_run Try.func74 rfl (by kernel_rfl) (by kernel_rfl) (by simp) (fun _ => rfl) (fun _ => rfl) 6 1000 ?_
  by_cases h : b ≤ a <;> simp +contextual (maxSteps := 2000000) (disch := ((try unfold LIM at *); omega)) only [↓bcase_true, ↓bcase_false, WA, simprocAttr, wrap_i64, h]
theorem walk77 (o : Opn) : PureV C 77 [.agg (oV o)] (.s (.bool (decide (1 ≤ o.1 ∧ o.1 ≤ 4)))) := by
  refine pure_of_run Try.func77 rfl (by kernel_rfl) (by kernel_rfl) (by simp) (fun _ => rfl) (fun _ => rfl) 6 1000 ?_
  simp +contextual (maxSteps := 2000000) (disch := ((try unfold LIM at *); omega)) only [↓bcase_true, ↓bcase_false, WA, simprocAttr, wrap_i64, oV]
  refine CallThen.pure (walk74 _ _ _) 1000 ?_
  simp +contextual (maxSteps := 2000000) (disch := ((try unfold LIM at *); omega)) only [↓bcase_true, ↓bcase_false, WA, simprocAttr, wrap_i64]
theorem walk75 (l : List Fl) (room : Int) (hb : sizeF l ≤ 9223372036854775807) : PureV C 75 [.f 2 (l.map fV), .s (.int .i64 room)] (.s (.bool (decide (fits l room)))) := by
  refine pure_of_run Try.func75 rfl (by kernel_rfl) (by kernel_rfl) (by simp) (fun _ => rfl) (fun _ => rfl) 6 1000 ?_
  simp +contextual (maxSteps := 2000000) (disch := ((try unfold LIM at *); omega)) only [↓bcase_true, ↓bcase_false, WA, simprocAttr, wrap_i64, List.length_map]
  intro hl
  refine LoopThen.pure (ι := Nat) (fun i => i ≤ l.length) (fun i => keepL [(0, .f 2 (l.map fV)), (1, .s (.int .i64 room)), (5, .s (.int .i64 (sizeF (l.take i)))), (8, .f 2 (l.map fV)), (9, .s (.int .i64 l.length)), (10, .s (.int .i64 i))]) (fun i => l.length - i) 6 [0, 1, 5, 8, 9, 10] 1000 1000 ⟨0, Nat.zero_le _, by simp +contextual (maxSteps := 2000000) (disch := ((try unfold LIM at *); omega)) only [↓bcase_true, ↓bcase_false, WA, simprocAttr, wrap_i64, sizeF]⟩ ?_
  intro i p1
  by_cases c2 : (i : Int) < l.length
  · obtain ⟨f, hf⟩ := get_lt c2
    have pi : (0 : Int) ≤ i := by omega
    have s1 := sizeF_succ l i f hf
    have s2 := sizeF_take l (i + 1)
    have s3 : (sizeF (l.take i) : Int) + ((f.1.size : Int) + f.2.size) = sizeF (l.take (i + 1)) := by omega
    simp +contextual (maxSteps := 2000000) (disch := ((try unfold LIM at *); omega)) only [↓bcase_true, ↓bcase_false, WA, simprocAttr, wrap_i64, List.length_map, c2, hf, pi, fV, cast_succ, s3]
    exact fun _ _ => ⟨i + 1, ⟨by omega, by omega⟩, rfl⟩
  · have e : i = l.length := by omega
    subst e
    by_cases c1 : (l.length : Int) ≤ 20
    · have e : fits l room ↔ ((sizeF l : Nat) : Int) ≤ room := by unfold fits; constructor <;> intro q <;> first | exact q.2 | exact ⟨by omega, q⟩
      simp +contextual (maxSteps := 2000000) (disch := ((try unfold LIM at *); omega)) only [↓bcase_true, ↓bcase_false, WA, simprocAttr, wrap_i64, List.length_map, c2, List.take_length, c1, e]
    · have e : fits l room ↔ False := by unfold fits; constructor <;> intro q <;> first | omega | exact q.elim
      simp +contextual (maxSteps := 2000000) (disch := ((try unfold LIM at *); omega)) only [↓bcase_true, ↓bcase_false, WA, simprocAttr, wrap_i64, List.length_map, c2, List.take_length, c1, e]
end Go.Proofs.Ytpcgnmoogjahbaa
/- part D8 -/
set_option linter.unusedVariables false
set_option linter.unusedSimpArgs false
set_option maxRecDepth 100000
namespace Go.Proofs.Ytpcgnmoogjahbaa
open Go Go.W Go.RowKit
/-- K is where the files begin that are not below n. -/
def Cut (l : List Fl) (n : ByteArray) (K : Nat) : Prop := K ≤ l.length ∧ ∀ k f, l[k]? = some f → (cmpB f.1 n < 0 ↔ k < K)
def hereB (l : List Fl) (n : ByteArray) (K : Nat) : Bool := match l[K]? with
  | some f => decide (cmpB f.1 n = 0)
  | none => false
theorem wrap_u64 {a : Int} (h1 : 0 ≤ a) (h2 : a ≤ 9223372036854775807) : IntKind.u64.wrap a = a := by
  unfold IntKind.wrap
  exact Int.emod_eq_of_lt (by omega) (by simp [IntKind.bits]; omega)
theorem walk126 (l : List Fl) (n : ByteArray) (K : Nat) (hl : l.length ≤ 1048577) (hK : Cut l n K) : PureV C 126 [.f 2 (l.map fV), .s (.string n), .fn 127 []] (.tup [.s (.int .i64 K), .s (.bool (hereB l n K))]) := by
  refine pure_of_run Try.func126 rfl (by kernel_rfl) (by kernel_rfl) (by simp) (fun _ => rfl) (fun _ => rfl) 6 1000 ?_
  obtain ⟨hK1, hK2⟩ := hK
  simp +contextual (maxSteps := 2000000) (disch := ((try unfold LIM at *); omega)) only [↓bcase_true, ↓bcase_false, WA, simprocAttr, wrap_i64, List.length_map]
  intro _
  refine LoopThen.pure (ι := Nat × Nat) (fun p => p.1 ≤ K ∧ K ≤ p.2 ∧ p.2 ≤ l.length) (fun p => keepL [(0, .f 2 (l.map fV)), (1, .s (.string n)), (2, .fn 127 []), (8, .s (.int .i64 l.length)), (9, .s (.int .i64 p.1)), (10, .s (.int .i64 p.2))]) (fun p => p.2 - p.1) 6 [0, 1, 2, 8, 9, 10] 1000 1000
    ⟨(0, l.length), ⟨Nat.zero_le _, hK1, Nat.le_refl _⟩, by simp +contextual (maxSteps := 2000000) (disch := ((try unfold LIM at *); omega)) only [↓bcase_true, ↓bcase_false, WA, simprocAttr, wrap_i64]⟩ ?_
  rintro ⟨i, j⟩ ⟨i1, i2, i3⟩
  simp only at i1 i2 i3
  by_cases c1 : (i : Int) < j
  · obtain ⟨m, hm⟩ : ∃ m, m = (i + j) / 2 := ⟨_, rfl⟩
    have hlt : m < l.length := by omega
    obtain ⟨f, hf⟩ := get_lt (l := l) (i := m) (by omega)
    have w1 : (i : Int) + (j : Int) = ((i + j : Nat) : Int) := by omega
    have w2 : IntKind.u64.wrap ((i + j : Nat) : Int) = ((i + j : Nat) : Int) := wrap_u64 (by omega) (by omega)
    have w3 : ((i + j : Nat) : Int) / 2 = (m : Int) := by omega
    have pi : (0 : Int) ≤ m := by omega
    have w4 : (1 : Int) ≤ (IntKind.u64.bits : Nat) := by decide
    simp +contextual (maxSteps := 2000000) (disch := ((try unfold LIM at *); omega)) only [↓bcase_true, ↓bcase_false, WA, simprocAttr, wrap_i64, List.length_map, c1, w1, w2, w3, w4, hf, pi, fV]
    refine CallThen.pure (walk127 f n) 1000 ?_
    have hq := hK2 m f hf
    by_cases c2 : cmpB f.1 n < 0
    · have := hq.1 c2
      simp +contextual (maxSteps := 2000000) (disch := ((try unfold LIM at *); omega)) only [↓bcase_true, ↓bcase_false, WA, simprocAttr, wrap_i64, c2, cast_succ]
      exact ⟨(m + 1, j), ⟨⟨by show m + 1 ≤ K; omega, i2, i3⟩, by simp only; omega⟩, rfl⟩
    · have : ¬ m < K := fun q => c2 (hq.2 q)
      simp +contextual (maxSteps := 2000000) (disch := ((try unfold LIM at *); omega)) only [↓bcase_true, ↓bcase_false, WA, simprocAttr, wrap_i64, c2]
      exact ⟨(i, m), ⟨⟨i1, by show K ≤ m; omega, by show m ≤ l.length; omega⟩, by simp only; omega⟩, rfl⟩
  · have iK : K = i := by omega
    subst iK
    by_cases c3 : (K : Int) < (l.length : Nat)
    · obtain ⟨f, hf⟩ := get_lt c3
      have pi : (0 : Int) ≤ K := by omega
      simp +contextual (maxSteps := 2000000) (disch := ((try unfold LIM at *); omega)) only [↓bcase_true, ↓bcase_false, WA, simprocAttr, wrap_i64, List.length_map, c1, c3, hf, pi, fV]
      refine CallThen.pure (walk127 f n) 1000 ?_
      simp +contextual (maxSteps := 2000000) (disch := ((try unfold LIM at *); omega)) only [↓bcase_true, ↓bcase_false, WA, simprocAttr, wrap_i64, hereB, hf]
    · have hn : l[K]? = none := List.getElem?_eq_none (by omega)
      simp +contextual (maxSteps := 2000000) (disch := ((try unfold LIM at *); omega)) only [↓bcase_true, ↓bcase_false, WA, simprocAttr, wrap_i64, List.length_map, c1, c3, hereB, hn]
theorem walk109 (l : List Fl) (n : ByteArray) (K : Nat) (hl : l.length ≤ 1048577) (hK : Cut l n K) : PureV C 109 [.f 2 (l.map fV), .s (.string n)] (.tup [.s (.int .i64 K), .s (.bool (hereB l n K))]) := by
  refine pure_of_run Try.func109 rfl (by kernel_rfl) (by kernel_rfl) (by simp) (fun _ => rfl) (fun _ => rfl) 6 1000 ?_
  simp +contextual (maxSteps := 2000000) (disch := ((try unfold LIM at *); omega)) only [↓bcase_true, ↓bcase_false, WA, simprocAttr, wrap_i64]
  refine CallThen.pure (walk126 l n K hl hK) 1000 ?_
  simp +contextual (maxSteps := 2000000) (disch := ((try unfold LIM at *); omega)) only [↓bcase_true, ↓bcase_false, WA, simprocAttr, wrap_i64]
end Go.Proofs.Ytpcgnmoogjahbaa
/- part W31 -/
set_option linter.unusedVariables false
set_option linter.unusedSimpArgs false
namespace Go.W
open Go Go.RowKit

/-! ### Functions that take a slice of one's own and answer one -/
section
variable {C : Cx} {h : H} {n0 : Nat}
/-- A block under a new name. -/
theorem Arr.rename {b : Nat} {B : Blk} (hb : h[b]? = some B) (hl : B.live = true) : Arr n0 h (h.set b Blk.dead ++ [B]) fun x x' => x' = x ∨ ∃ i l c, x = .sl b i l c ∧ x' = .sl h.length i l c := by
  intro S w0 φ w ⟨F, R⟩ hn
  have hblt : b < h.length := (List.getElem?_eq_some_iff.1 hb).1
  have hB := R.blk b B hb
  have hB' := hB
  unfold BlkRel at hB
  rw [if_pos hl] at hB
  obtain ⟨p, k1, k2, k3, k4⟩ := hB
  have he : Ext φ (phiPush φ h.length (p, B.n)) := phiPush_ext (R.dom _ (Nat.le_refl _))
  refine ⟨phiPush φ h.length (p, B.n), ⟨_, R.step (w' := w) (bo := b) (b0 := h.length) (B0 := B) (fp0 := F b) he rfl R.kept (Nat.le_refl _) (by simp) (by simp) ?_ (fun _ _ _ => rfl) (.inr (Nat.le_refl _)) (by simp) ?_ ?_ (fun k hk => .inl hk) (fun k hk => (R.mine b k hk).2) (R.nodup b) ?_⟩,
    phiPush_extN (Nat.le_trans hn (Nat.le_refl _)), by simp; omega, fun x x' v hm r => ?_⟩
  · intro j hj
    simp at hj
    rw [phiPush_old (by omega)]; exact R.dom j (by omega)
  · intro _ D hD
    rw [List.getElem?_append_left (by simpa using hblt)] at hD
    simp [hblt] at hD; subst hD; rfl
  · intro j h1 h2
    by_cases q : j < h.length
    · rw [List.getElem?_append_left (by simpa using q), List.getElem?_set_ne (Ne.symm h2)]
    · rw [List.getElem?_eq_none (by simp; omega), List.getElem?_eq_none (by omega)]
  · unfold BlkRel; rw [if_pos hl]
    refine ⟨p, phiPush_new, k2, k3, ?_⟩
    cases p with
    | none => exact k4
    | some k =>
      obtain ⟨c, ty, fq, q1, q2, q3, q4, q5⟩ := k4
      exact ⟨c, ty, fq, q1, q2, q3, q4.mono fun x v f _ d => d.mono he fun _ _ => rfl, q5⟩
  · rcases hm with rfl | ⟨i, l, c, rfl, rfl⟩
    · exact r.ext he
    · obtain ⟨p', n', q1, q2⟩ : ∃ p' n', φ.m b = some (p', n') ∧ _ := r
      rw [k1] at q1; obtain ⟨rfl, rfl⟩ := Prod.mk.inj (Option.some.inj q1)
      exact ⟨p, B.n, phiPush_new, q2⟩

/-- What a block holds behind a place is forgotten. -/
theorem Arr.shrink {b n cap j : Nat} {els : List (List V)} (hb : h[b]? = some ⟨els, n, cap, true⟩) : Arr n0 h (h.set b ⟨els.take j, n, cap, true⟩) fun x x' => x' = x := by
  intro S w0 φ w ⟨F, R⟩ hn
  have hblt : b < h.length := (List.getElem?_eq_some_iff.1 hb).1
  obtain ⟨p, k1, k2, k3, k4⟩ := R.place hb rfl
  simp only at k1 k2 k3
  have key : ∃ fp0, (∀ k ∈ fp0, k ∈ F b) ∧ fp0.Nodup ∧ BlkRel φ w b ⟨els.take j, n, cap, true⟩ fp0 := by
    cases p with
    | none =>
      obtain ⟨e1, e2, e3⟩ := k4
      simp only at e1 e2
      refine ⟨[], by simp, List.nodup_nil, ?_⟩
      unfold BlkRel; rw [if_pos rfl]
      exact ⟨none, k1, by simp [e1], by simp [e1], by simp [e1], e2, rfl⟩
    | some k =>
      obtain ⟨c, ty, fq, q1, q2, q3, q4, q5⟩ := k4
      simp only at q2 q3 q4
      obtain ⟨f1, f2, e, ht⟩ := q4.take j
      have hnd := R.nodup b
      rw [q5, e] at hnd
      refine ⟨k :: f1, fun x hx => by rw [q5, e]; simp at hx ⊢; rcases hx with q | q <;> simp [q], ?_, ?_⟩
      · simp only [List.nodup_cons, List.nodup_append, List.mem_append] at hnd ⊢
        exact ⟨fun q => hnd.1 (.inl q), hnd.2.1⟩
      · unfold BlkRel; rw [if_pos rfl]
        exact ⟨some k, k1, fun el he => k2 el (List.mem_of_mem_take he), by simp only [List.length_take]; omega, c, ty, f1, q1, q2, by simp only [List.length_take]; omega, ht, rfl⟩
  obtain ⟨fp0, g1, g2, g3⟩ := key
  refine ⟨φ, ⟨_, R.step (w' := w) (bo := b) (b0 := b) (fp0 := fp0) (Ext.refl φ) rfl R.kept (Nat.le_refl _) (by simpa using hblt) (by simp) (fun i hi => R.dom i (by simpa using hi)) (fun _ _ _ => rfl) (.inl rfl) (by simp [hblt])
    (fun q => absurd rfl q) (fun i h1 h2 => by rw [List.getElem?_set_ne (Ne.symm h1)]) (fun k hk => .inl (g1 k hk)) (fun k hk => (R.mine b k (g1 k hk)).2) g2 g3⟩, ExtN.refl .., by simpa using hn, fun x x' v hm r => by subst hm; exact r⟩

theorem Up.own {R : Res → H → Prop} {b len cap n : Nat} {els : List (List V)} (hb : h[b]? = some ⟨els, n, cap, true⟩) (hn : nrs els = true) (hr : R (.ret (.sl 1 0 len cap)) [Blk.dead, ⟨els, n, cap, true⟩]) : Up 1 R (.ret (.sl b 0 len cap)) h := by
  have hlt : b < h.length := (List.getElem?_eq_some_iff.1 hb).1
  have hlen : (h.set b Blk.dead ++ [(⟨els, n, cap, true⟩ : Blk)]).length = h.length + 1 := by simp
  have hg : gcOk [0, h.length] (h.set b Blk.dead ++ [⟨els, n, cap, true⟩]) [Blk.dead, ⟨els, n, cap, true⟩] 1 := by
    have g4 : ∀ i : Nat, i < 1 → ([0, h.length] : List Nat)[i]? = some i := by
      intro i hi
      obtain rfl : i = 0 := by omega
      rfl
    refine ⟨rfl, ?_, by simp, g4, fun i B' e hl => ?_⟩
    · simp; omega
    · match i, e with
      | 0, e => simp at e; subst e; cases hl
      | 1, e =>
        simp at e; subst e
        refine ⟨⟨els, n, cap, true⟩, ?_, (nrs_rn _ hn).symm⟩
        rw [show nm [0, h.length] (h.set b Blk.dead ++ [(⟨els, n, cap, true⟩ : Blk)]).length 1 = h.length from rfl, List.getElem?_append_right (by simp)]; simp
      | i + 2, e => simp at e
  refine ⟨.sl 1 0 len cap, _, _, (Arr.rename (n0 := 1) hb rfl).trans (Arr.gc hg), ⟨.sl h.length 0 len cap, .inr ⟨0, len, cap, rfl, rfl⟩, .inr rfl⟩, hr⟩

theorem Up.ownTake {R : Res → H → Prop} {b len cap n j : Nat} {els post : List (List V)} (hb : h[b]? = some ⟨els, n, cap, true⟩) (he : els.take j = post) (hn : nrs post = true) (hr : R (.ret (.sl 1 0 len cap)) [Blk.dead, ⟨post, n, cap, true⟩]) : Up 1 R (.ret (.sl b 0 len cap)) h := by
  have hlt : b < h.length := (List.getElem?_eq_some_iff.1 hb).1
  subst he
  obtain ⟨v', h', M, ar, hm, hR⟩ := Up.own (h := h.set b ⟨els.take j, n, cap, true⟩) (b := b) (by simp [hlt]) hn hr
  exact ⟨v', h', _, (Arr.shrink (n0 := 1) (j := j) hb).trans ar, ⟨_, rfl, hm⟩, hR⟩

/-- Two blocks were handed over: the first is given up, the second stays. -/
theorem Up.own2 {R : Res → H → Prop} {b len cap n j : Nat} {els post : List (List V)} {B1 : Blk} (hb : h[b]? = some ⟨els, n, cap, true⟩) (hb1 : b ≠ 1) (h1 : h[1]? = some B1) (hn1 : nrs B1.els = true) (he : els.take j = post) (hn : nrs post = true)
    (hr : R (.ret (.sl 2 0 len cap)) [Blk.dead, B1, ⟨post, n, cap, true⟩]) : Up 2 R (.ret (.sl b 0 len cap)) h := by
  have hlt : b < h.length := (List.getElem?_eq_some_iff.1 hb).1
  have hlt1 : 1 < h.length := (List.getElem?_eq_some_iff.1 h1).1
  subst he
  have e1 : (h.set b ⟨els.take j, n, cap, true⟩)[b]? = some ⟨els.take j, n, cap, true⟩ := by simp [hlt]
  have hg : gcOk [0, 1, h.length] ((h.set b ⟨els.take j, n, cap, true⟩).set b Blk.dead ++ [⟨els.take j, n, cap, true⟩]) [Blk.dead, B1, ⟨els.take j, n, cap, true⟩] 2 := by
    have g4 : ∀ i : Nat, i < 2 → ([0, 1, h.length] : List Nat)[i]? = some i := by
      intro i hi
      match i, hi with
      | 0, _ => rfl
      | 1, _ => rfl
    refine ⟨rfl, ?_, by simp, g4, fun i B' e hl => ?_⟩
    · simp; omega
    · match i, e with
      | 0, e => simp at e; subst e; cases hl
      | 1, e =>
        simp at e; subst e
        refine ⟨B1, ?_, (nrs_rn _ hn1).symm⟩
        show ((h.set b ⟨els.take j, n, cap, true⟩).set b Blk.dead ++ [_])[1]? = _
        rw [List.getElem?_append_left (by simpa using hlt1), List.getElem?_set_ne hb1, List.getElem?_set_ne hb1]; exact h1
      | 2, e =>
        simp at e; subst e
        refine ⟨⟨els.take j, n, cap, true⟩, ?_, (nrs_rn _ hn).symm⟩
        show ((h.set b ⟨els.take j, n, cap, true⟩).set b Blk.dead ++ [_])[h.length]? = _
        rw [List.getElem?_append_right (by simp)]; simp
      | i + 3, e => simp at e
  have hl : (h.set b ⟨els.take j, n, cap, true⟩).length = h.length := by simp
  refine ⟨.sl 2 0 len cap, _, _, ((Arr.shrink (n0 := 2) (j := j) hb).trans (Arr.rename (n0 := 2) e1 rfl)).trans (Arr.gc hg), ⟨.sl h.length 0 len cap, ⟨.sl b 0 len cap, rfl, .inr ⟨0, len, cap, rfl, by rw [hl]⟩⟩, .inr rfl⟩, hr⟩

/-- f takes a slice of one's own, and what it answers is one. -/
structure OwnV (C : Cx) (f : Nat) (n : Nat) (els : List (List V)) (rest : List V) (post : List (List V)) : Prop where
  ne : nrs els = true
  np : nrs post = true
  cr : ∀ ρ, rest.map (rnV ρ) = rest
  calls : ∀ cap, els.length ≤ cap → CallsV C f (.sl 0 0 els.length cap :: rest) [⟨els, n, cap, true⟩] fun res h' => ∃ cap', post.length ≤ cap' ∧ res = .ret (.sl 1 0 post.length cap') ∧ h' = [Blk.dead, ⟨post, n, cap', true⟩]

theorem OwnV.at_ {f n b cap : Nat} {els post : List (List V)} {rest : List V} (p : OwnV C f n els rest post) (H : H) (hb : H[b]? = some ⟨els, n, cap, true⟩) (hc : els.length ≤ cap) :
    CallsV C f (.sl b 0 els.length cap :: rest) H fun res h' => ∃ cap', post.length ≤ cap' ∧ res = .ret (.sl H.length 0 post.length cap') ∧ h' = H.set b Blk.dead ++ [⟨post, n, cap', true⟩] := by
  have hlt : b < H.length := (List.getElem?_eq_some_iff.1 hb).1
  have := CallsV.frame (p.calls cap hc) [b] H rfl (by simp) (fun i B e => by
    match i, e with
    | 0, e => simp at e; subst e; exact ⟨b, rfl, by rw [nrs_rn _ p.ne]; exact hb⟩
    | i + 1, e => simp at e)
  have e0 : emb [b] H.length 0 = b := rfl
  have e1 : emb [b] H.length 1 = H.length := by simp [emb]
  have ea : (V.sl 0 0 els.length cap :: rest).map (rnV (emb [b] H.length)) = .sl b 0 els.length cap :: rest := by
    rw [List.map_cons, p.cr]; simp only [rnV, rnQ, rnC, rnP, e0]
  rw [ea] at this
  refine this.mono fun res h' ⟨r, h1, ⟨cap', q1, q2, q3⟩, q4, q5⟩ => ⟨cap', q1, ?_, ?_⟩
  · subst q2; rw [q4]; simp only [rnRes, rnV, rnQ, rnC, rnP, e1]
  · subst q3
    rw [q5]
    simp only [List.map_cons, List.map_nil, setAll]
    rw [nrs_rn _ (B := ⟨post, n, cap', true⟩) p.np]
    rfl

variable {N m : Nat} {Q : QT} {k : List It} {τ : Tau}
theorem CallThen.own {f n b cap : Nat} {els post : List (List V)} {rest : List V} {d : Option Nat} (p : OwnV C f n els rest post) (hb : h[b]? = some ⟨els, n, cap, true⟩) (hc : els.length ≤ cap) (m : Nat)
    (hr : ∀ cap', post.length ≤ cap' → Run C N n0 m Q k (upo d (.sl h.length 0 post.length cap') τ) (h.set b Blk.dead ++ [⟨post, n, cap', true⟩])) : CallThen C N n0 Q f (.sl b 0 els.length cap :: rest) d k τ h :=
  CallThen.of m (p.at_ h hb hc) fun res h' ⟨cap', e1, e2, e3⟩ => by subst e2; subst e3; exact hr cap' e1
theorem DCall.own {h0 : H} {exc : List Nat} {ops : Array Oper} {fuel : Nat} {listed : Array Bool} {f n b cap : Nat} {els post : List (List V)} {rest : List V} {d : Option Nat} {nw : List Nat} (p : OwnV C f n els rest post) (hb : (hide h0 exc h)[b]? = some ⟨els, n, cap, true⟩) (hc : els.length ≤ cap) (m : Nat) (td : TD) (hd : drawOk ops [] listed td = true)
    (hr : ∀ cap', post.length ≤ cap' → RunD C N n0 m Q k h0 exc ops fuel listed td (addN d nw) (upo d (.sl (hide h0 exc h).length 0 post.length cap') τ) (show_ h0 exc h ((hide h0 exc h).set b Blk.dead ++ [⟨post, n, cap', true⟩]))) : DCall C N n0 Q h0 exc ops fuel listed k f (.sl b 0 els.length cap :: rest) d nw τ h :=
  DCall.of m td hd (p.at_ _ hb hc) fun res h' ⟨cap', e1, e2, e3⟩ => by subst e2; subst e3; exact hr cap' e1
end
end Go.W
/- part D9 -/
set_option linter.unusedVariables false
set_option linter.unusedSimpArgs false
set_option maxRecDepth 100000
namespace Go.Proofs.Ytpcgnmoogjahbaa
open Go Go.W Go.RowKit
theorem walk130 (l : List Fl) (K : Nat) (hK : K < l.length) (hl : l.length ≤ 1048576) : OwnV C 130 2 (l.map fV) [.s (.int .i64 K), .s (.int .i64 ((K + 1 : Nat) : Int))] ((l.eraseIdx K).map fV) := by
  refine ⟨nrs_map fV_nr _, nrs_map fV_nr _, fun _ => rfl, fun cap hc => ?_⟩
  rw [List.length_map] at hc ⊢
  refine calls_of_run Try.func130 rfl (by kernel_rfl) (by kernel_rfl) (by simp) 1000 ?_
  have p1 : (0 : Int) ≤ K := by omega
  have p2 : (0 : Int) ≤ ((K + 1 : Nat) : Int) := by omega
  have p3 : ((K + 1 : Nat) : Int) ≤ l.length := by omega
  have p4 : (K : Int) ≤ ((K + 1 : Nat) : Int) := by omega
  have p5 : (K : Int) ≤ cap := by omega
  have p6 : (l.length : Int) ≤ cap := by omega
  have p7 : ¬ (K : Int) = ((K + 1 : Nat) : Int) := by omega
  simp +contextual (maxSteps := 2000000) (disch := ((try unfold LIM at *); omega)) only [↓bcase_true, ↓bcase_false, WA, simprocAttr, wrap_i64, List.length_map, p1, p2, p3, p4, p5, p6, p7]
  refine DrawThen.of 1000 [0] (.old 0 (.old 1 (.old 2 (.old 3 (.old 4 (.old 5 (.go 6 (.new 7 .done)))))))) (panFree_body _ _) (by kernel_rfl) (by kernel_rfl) (by kernel_rfl) ?_
  have er : l.eraseIdx K = l.take K ++ l.drop (K + 1) := List.eraseIdx_eq_take_drop_succ l K
  have el : (l.eraseIdx K).length = K + (l.length - (K + 1)) := by rw [er, List.length_append, List.length_take, List.length_drop]; omega
  have q1 : K ≤ l.length := by omega
  have q2 : (K + (l.length - (K + 1))) * 32 ≤ 140737488355328 ∧ K + (l.length - (K + 1)) ≤ LIM ∧ K + (l.length - (K + 1)) ≤ cap := by unfold LIM; omega
  have q3 : K + 1 + (l.length - (K + 1)) = l.length := by omega
  have q4 : ¬ K = l.length := by omega
  have q5 : List.take (l.length - (K + 1)) (List.drop (K + 1) (l.map fV)) = (l.drop (K + 1)).map fV := by rw [← List.map_drop]; exact List.take_of_length_le (by simp)
  have q6 : List.take K (l.map fV) ++ (l.drop (K + 1)).map fV = (l.eraseIdx K).map fV := by rw [er, List.map_append, List.map_take]
  have q7 : ((l.drop (K + 1)).map fV).length = l.length - (K + 1) := by simp
  have r1 : (0 : Int) ≤ ((K + (l.length - (K + 1)) : Nat) : Int) ∧ ((K + (l.length - (K + 1)) : Nat) : Int) ≤ l.length ∧ ((K + (l.length - (K + 1)) : Nat) : Int) < l.length := by omega
  have fin : ∀ (τ : Tau) (b : Nat) (H : H) (k : List It) (Q : QT) (d : Option Nat), H[b]? = some ⟨(l.eraseIdx K).map fV, 2, cap, true⟩ →
      Run C Try.f130.ntmps 1 900 Q k (upo d (.tup []) τ) (H.set b ⟨putAt ((l.eraseIdx K).map fV) (K + (l.length - (K + 1))) (List.replicate (l.length - (K + (l.length - (K + 1)))) [V.s (.string ⟨#[]⟩), V.s (.string ⟨#[]⟩)]), 2, cap, true⟩) →
      ClearThen C Try.f130.ntmps 1 Q (.sl b (K + (l.length - (K + 1))) (l.length - (K + (l.length - (K + 1)))) (cap - (K + (l.length - (K + 1))))) 49 d k τ H := by
    intro τ b H k Q d hH hr
    refine ClearThen.of 900 (ClearV.own (e := 81) (z := [V.s (.string ⟨#[]⟩), V.s (.string ⟨#[]⟩)]) (by simp only [ty49]) (by simp only [ty81]) rfl hH (leafs_map fV_ok _) (by rw [List.length_map, el]; omega) (by omega) (by unfold LIM; omega)) ?_
    rintro v h' ⟨rfl, rfl⟩
    exact hr
  have pt : List.take (l.eraseIdx K).length (putAt ((l.eraseIdx K).map fV) (K + (l.length - (K + 1))) (List.replicate (l.length - (K + (l.length - (K + 1)))) [V.s (.string ⟨#[]⟩), V.s (.string ⟨#[]⟩)])) = (l.eraseIdx K).map fV := by
    rw [← el]; unfold putAt; rw [take_map_len, List.append_assoc]; simp
  by_cases c : ((K + 1 : Nat) : Int) < l.length
  · simp +contextual (maxSteps := 2000000) (disch := ((try unfold LIM at *); omega)) only [↓bcase_true, ↓bcase_false, WA, simprocAttr, wrap_i64, List.length_map, p1, p2, p3, p4, p5, p6, c, q1, q2, q3, q4, q5, q6, q7, leafs_map fV_ok, takeTo, Nat.sub_zero, hc, r1]
    intro cap' hcap hce
    subst hce
    refine fin _ 1 _ _ _ _ ?_ ?_
    · rfl
    simp +contextual (maxSteps := 2000000) (disch := ((try unfold LIM at *); omega)) only [↓bcase_true, ↓bcase_false, WA, simprocAttr, wrap_i64]
    exact Up.ownTake (b := 1) rfl pt (nrs_map fV_nr _) ⟨cap', by omega, by rw [el], rfl⟩
  · have hz : K + (l.length - (K + 1)) = K := by omega
    rw [hz] at fin pt el r1 q2
    have q8 : List.take K (l.map fV) = (l.eraseIdx K).map fV := by
      rw [← q6, List.drop_eq_nil_of_le (by omega)]; simp
    simp +contextual (maxSteps := 2000000) (disch := ((try unfold LIM at *); omega)) only [↓bcase_true, ↓bcase_false, WA, simprocAttr, wrap_i64, List.length_map, p1, p2, p3, p4, p5, p6, c, q1, q2, q3, q4, q8, leafs_map fV_ok, takeTo, Nat.sub_zero, hc, r1]
    intro cap' hcap hce
    subst hce
    refine fin _ 1 _ _ _ _ ?_ ?_
    · rfl
    simp +contextual (maxSteps := 2000000) (disch := ((try unfold LIM at *); omega)) only [↓bcase_true, ↓bcase_false, WA, simprocAttr, wrap_i64]
    exact Up.ownTake (b := 1) rfl pt (nrs_map fV_nr _) ⟨cap', by omega, by rw [el], rfl⟩
end Go.Proofs.Ytpcgnmoogjahbaa
/- part D10 -/
set_option linter.unusedVariables false
set_option linter.unusedSimpArgs false
set_option maxRecDepth 100000
namespace Go.Proofs.Ytpcgnmoogjahbaa
open Go Go.W Go.RowKit
def withoutS (l : List Fl) (n : ByteArray) (K : Nat) : List Fl := if hereB l n K = true then l.eraseIdx K else l
theorem here_lt {l : List Fl} {n : ByteArray} {K : Nat} (h : hereB l n K = true) : K < l.length := by
  unfold hereB at h
  split at h
  · rename_i f hf; exact (List.getElem?_eq_some_iff.1 hf).1
  · cases h
theorem own_els {l : List Fl} {cap : Nat} : elsOf 0 l.length (some ⟨l.map fV, 2, cap, true⟩) = some (l.map fV) := by simp [elsOf, List.take_of_length_le]
theorem walk111 (l : List Fl) (n : ByteArray) (K : Nat) (hl : l.length ≤ 1048576) (hK : Cut l n K) : OwnV C 111 2 (l.map fV) [.s (.string n)] ((withoutS l n K).map fV) := by
  refine ⟨nrs_map fV_nr _, nrs_map fV_nr _, fun _ => rfl, fun cap hc => ?_⟩
  rw [List.length_map] at hc ⊢
  refine calls_of_run Try.func111 rfl (by kernel_rfl) (by kernel_rfl) (by simp) 1000 ?_
  simp +contextual (maxSteps := 2000000) (disch := ((try unfold LIM at *); omega)) only [↓bcase_true, ↓bcase_false, WA, simprocAttr, wrap_i64]
  refine CallThen.borrow (walk109 l n K (by omega) hK) (flat_two _ _) 6 ?_ 1000 ?_
  · simp +contextual (maxSteps := 2000000) (disch := ((try unfold LIM at *); omega)) only [↓bcase_true, ↓bcase_false, WA, simprocAttr, wrap_i64, List.length_map, fV_frz, Nat.not_lt_zero, own_els]
  cases c : hereB l n K with
  | true =>
    have hlt := here_lt c
    simp +contextual (maxSteps := 2000000) (disch := ((try unfold LIM at *); omega)) only [↓bcase_true, ↓bcase_false, WA, simprocAttr, wrap_i64, c, cast_succ]
    have e : l.length = (l.map fV).length := by simp
    rw [e]
    refine CallThen.own (walk130 l K hlt hl) (by rfl) (by simpa using hc) 1000 fun cap' hc' => ?_
    simp +contextual (maxSteps := 2000000) (disch := ((try unfold LIM at *); omega)) only [↓bcase_true, ↓bcase_false, WA, simprocAttr, wrap_i64, List.length_map]
    rw [List.length_map] at hc'
    exact Up.own (b := 1) rfl (nrs_map fV_nr _) ⟨cap', by simp only [withoutS, c, if_true]; exact hc', by simp only [withoutS, c, if_true], by simp only [withoutS, c, if_true]⟩
  | false =>
    simp +contextual (maxSteps := 2000000) (disch := ((try unfold LIM at *); omega)) only [↓bcase_true, ↓bcase_false, WA, simprocAttr, wrap_i64, c]
    exact Up.own (b := 0) rfl (nrs_map fV_nr _) ⟨cap, by simp only [withoutS, c]; simpa using hc, by simp [withoutS, c], by simp [withoutS, c]⟩
end Go.Proofs.Ytpcgnmoogjahbaa
/- part D11 -/
set_option linter.unusedVariables false
set_option linter.unusedSimpArgs false
set_option maxRecDepth 100000
namespace Go.Proofs.Ytpcgnmoogjahbaa
open Go Go.W Go.RowKit
theorem walk134 {H : Go.W.H} {b1 o1 l1 c1 b2 o2 l2 c2 n1 n2 cap1 cap2 : Nat} {e1 e2 : List (List V)} (h1 : H[b1]? = some ⟨e1, n1, cap1, true⟩) (h2 : H[b2]? = some ⟨e2, n2, cap2, true⟩) (hne : b1 ≠ b2) (hc1 : 0 < c1) (hc2 : 0 < c2) (hp2 : 0 < cap2 * n2) :
    CallsV C 134 [.sl b1 o1 l1 c1, .sl b2 o2 l2 c2] H fun res h' => res = .ret (.s (.bool false)) ∧ h' = H := by
  intro S w0 φ vs w G ⟨F, R⟩ ha
  obtain ⟨l⟩ := vs
  match l, ha with
  | [x, y], ha =>
    obtain ⟨r1, r2, _⟩ := ha
    obtain ⟨p1, m1, q1, hv1⟩ := sl_rel r1
    obtain ⟨p2, m2, q2, hv2⟩ := sl_rel r2
    obtain ⟨pp1, g1, _, _, g4⟩ := R.place h1 rfl
    obtain ⟨pp2, k1, _, _, k4⟩ := R.place h2 rfl
    simp only at g1 k1
    rw [q1] at g1; obtain ⟨rfl, rfl⟩ := Prod.mk.inj (Option.some.inj g1)
    rw [q2] at k1; obtain ⟨rfl, rfl⟩ := Prod.mk.inj (Option.some.inj k1)
    cases p1 with
    | none => obtain ⟨_, _, rfl, _⟩ := hv1; omega
    | some a =>
      cases p2 with
      | none => obtain ⟨_, _, rfl, _⟩ := hv2; omega
      | some b =>
        simp only at hv1 hv2
        subst hv1; subst hv2
        obtain ⟨ca, ta, fa, y1, y2, y3, y4, y5⟩ := g4
        obtain ⟨cb, tb, fb, z1, z2, z3, z4, z5⟩ := k4
        have hab : a ≠ b := fun e => hne (R.disj b1 b2 a (by rw [y5]; simp) (by rw [z5]; simp [e]))
        refine .inr ⟨.bool false, w, ?_, .ret (.s (.bool false)), φ, H, ⟨_, rfl, mk_s rfl⟩, ⟨F, R⟩, ExtN.refl .., Nat.le_refl _, rfl, rfl⟩
        show (callFunc 134 #[_, _]).run Try.prog w = _
        simp only at y1 y2 z1 z2
        rw [run_callFunc_extern Try.func134 (by kernel_rfl) (by kernel_rfl) (by kernel_rfl) (e := Extern.SlicesOverlaps.overlaps #[49, 49] #[4]) (by kernel_rfl),
          Lib.run_overlaps_apart w 49 4 81 Try.underlying49 2 (fun w => run_sz (by kernel_rfl) w) ⟨a, _, none⟩ ⟨b, _, none⟩ l1 c1 l2 c2 hab ta tb ca.size cb.size
            (by simp [World.shape?, y1]) (by simp [World.shape?, z1]) (by omega) (by simp [World.frozen?, y1]) (by simp [World.frozen?, y1])]
        rfl
end Go.Proofs.Ytpcgnmoogjahbaa
/- part D12 -/
set_option linter.unusedVariables false
set_option linter.unusedSimpArgs false
set_option maxRecDepth 100000
namespace Go.Proofs.Ytpcgnmoogjahbaa
open Go Go.W Go.RowKit
def insertS (l : List Fl) (K : Nat) (f : Fl) : List Fl := l.take K ++ f :: l.drop K
/-- slices.Insert of one element. -/
theorem walk129 (l : List Fl) (K cap : Nat) (f : Fl) (hK : K ≤ l.length) (hl : l.length ≤ 1048576) (hc : l.length ≤ cap) :
    CallsV C 129 [.sl 0 0 l.length cap, .s (.int .i64 K), .sl 1 0 1 1] [⟨l.map fV, 2, cap, true⟩, ⟨[fV f], 2, 1, true⟩] fun res h' =>
      ∃ cap', l.length + 1 ≤ cap' ∧ res = .ret (.sl 2 0 (l.length + 1) cap') ∧ h' = [Blk.dead, ⟨[fV f], 2, 1, true⟩, ⟨(insertS l K f).map fV, 2, cap', true⟩] := by
  refine calls_of_run Try.func129 rfl (by kernel_rfl) (by kernel_rfl) (by simp) 1000 ?_
  have p1 : (0 : Int) ≤ K ∧ (K : Int) ≤ l.length ∧ (l.length : Int) ≤ cap ∧ (K : Int) ≤ cap := by omega
  have lf : leafs [fV f] = true := rfl
  by_cases c1 : (K : Int) = l.length
  · obtain rfl : K = l.length := by omega
    have q1 : (l.length + 1) * 32 ≤ 140737488355328 ∧ l.length + 1 ≤ LIM := by unfold LIM; omega
    have lt : ¬ (l.length : Int) < l.length := by omega
    have q2 : l.map fV ++ [fV f] = (insertS l l.length f).map fV := by simp [insertS]
    simp +contextual (maxSteps := 2000000) (disch := ((try unfold LIM at *); omega)) only [↓bcase_true, ↓bcase_false, WA, simprocAttr, wrap_i64, p1, hc, lt, List.length_map, q1, q2, takeTo, lf, leafs_map fV_ok, Nat.sub_zero]
    intro cap' hc' _
    exact Up.own2 (b := 2) (j := l.length + 1) rfl (by decide) rfl rfl (by rw [List.take_of_length_le (by simp [insertS])]) (nrs_map fV_nr _) ⟨cap', hc', rfl, rfl⟩
  have hlt : K < l.length := by omega
  have lt : (K : Int) < l.length := by omega
  by_cases c2 : cap < l.length + 1
  · have c2' : (cap : Int) < ((l.length + 1 : Nat) : Int) := by omega
    obtain ⟨z, hz⟩ : ∃ z : Nat, z = l.length + 1 - K := ⟨_, rfl⟩
    have z1 : ((l.length + 1 : Nat) : Int) - (K : Int) = (z : Int) := by omega
    have z2 : (0 : Int) < z ∧ (z : Int) ≤ 4611686018427387904 ∧ cap < K + z ∧ (K + z) * 32 ≤ 140737488355328 ∧ K + z ≤ LIM ∧ ¬ K = l.length ∧ (0 : Int) ≤ K ∧ (K : Int) ≤ ((K + z : Nat) : Int) ∧ (K : Int) < ((K + z : Nat) : Int) := by unfold LIM; omega
    have z3 : leafs (List.take K (l.map fV)) = true := leafs_take (leafs_map fV_ok l) K
    simp +contextual (maxSteps := 2000000) (disch := ((try unfold LIM at *); omega)) only [↓bcase_true, ↓bcase_false, WA, simprocAttr, wrap_i64, p1, c1, hc, hK, lt, c2, c2', z1, z2, z3, List.length_map, takeTo, lf, leafs_map fV_ok, Nat.sub_zero, cast_succ]
    intro cap' hc'
    have lz : leafs (List.take K (l.map fV) ++ List.replicate z [V.s (.string ⟨#[]⟩), V.s (.string ⟨#[]⟩)]) = true := by
      have := leafs_zero (z := [V.s (.string ⟨#[]⟩), V.s (.string ⟨#[]⟩)]) rfl z
      simp only [leafs, List.all_append, Bool.and_eq_true] at *; exact ⟨z3, this⟩
    have lA : (List.take K (l.map fV)).length = K := by simp; omega
    have i1 : putAt (List.take K (l.map fV) ++ List.replicate z [V.s (.string ⟨#[]⟩), V.s (.string ⟨#[]⟩)]) K [fV f] = (l.take K ++ [f]).map fV ++ List.replicate (z - 1) [V.s (.string ⟨#[]⟩), V.s (.string ⟨#[]⟩)] := by
      unfold putAt
      rw [List.take_left' lA, List.drop_append, lA, List.drop_eq_nil_of_le (by simp; omega)]
      simp [List.map_take]
    have lB : ((l.take K ++ [f]).map fV).length = K + 1 := by simp; omega
    have i2 : putAt ((l.take K ++ [f]).map fV ++ List.replicate (z - 1) [V.s (.string ⟨#[]⟩), V.s (.string ⟨#[]⟩)]) (K + 1) ((l.drop K).map fV) = (insertS l K f).map fV := by
      have e0 : List.drop (K + 1 + ((l.drop K).map fV).length) ((l.take K ++ [f]).map fV ++ List.replicate (z - 1) [V.s (.string ⟨#[]⟩), V.s (.string ⟨#[]⟩)]) = [] := List.drop_eq_nil_of_le (by simp; omega)
      unfold putAt insertS
      rw [List.take_left' lB, e0]; simp
    refine CopyThen.of 1000 (CopyV.own (b := 2) (e := 81) (n := 2) (cap := cap') (m := 1) (k := 1) (els := List.take K (l.map fV) ++ List.replicate z [V.s (.string ⟨#[]⟩), V.s (.string ⟨#[]⟩)]) (news := [fV f]) (by simp only [ty49]) (by simp only [ty81]) rfl (Src.own (by omega) rfl rfl lf) ?_ rfl ?_ lz lf ?_ ?_ ?_) ?_
    · simp only [Nat.min_def]; split <;> omega
    · intro el he
      simp at he; subst he; rfl
    · simp; omega
    · omega
    · unfold LIM; omega
    rintro v h' ⟨rfl, rfl⟩
    rw [i1]
    simp +contextual (maxSteps := 2000000) (disch := ((try unfold LIM at *); omega)) only [↓bcase_true, ↓bcase_false, WA, simprocAttr, wrap_i64]
    refine DrawThen.of 1000 [0, 2] (.old 0 (.old 1 (.old 2 (.old 3 (.old 4 (.old 5 (.old 6 (.old 7 (.go 8 .done))))))))) (panFree_body _ _) (by kernel_rfl) (by kernel_rfl) (by kernel_rfl) ?_
    have s1 : (0 : Int) ≤ ((K + 1 : Nat) : Int) ∧ ((K + 1 : Nat) : Int) ≤ ((K + z : Nat) : Int) ∧ K + z ≤ cap' ∧ (0 : Int) ≤ (K : Int) ∧ (K : Int) ≤ l.length ∧ ((K + 1 : Nat) : Int) < ((K + z : Nat) : Int) := by omega
    simp +contextual (maxSteps := 2000000) (disch := ((try unfold LIM at *); omega)) only [↓bcase_true, ↓bcase_false, WA, simprocAttr, wrap_i64, s1, hc, lt, Nat.sub_zero, List.length_map, cast_succ]
    have lE : leafs ((l.take K ++ [f]).map fV ++ List.replicate (z - 1) [V.s (.string ⟨#[]⟩), V.s (.string ⟨#[]⟩)]) = true := by
      have h1 := leafs_map fV_ok (l.take K ++ [f])
      have h2 := leafs_zero (z := [V.s (.string ⟨#[]⟩), V.s (.string ⟨#[]⟩)]) rfl (z - 1)
      simp only [leafs, List.all_append, Bool.and_eq_true] at *; exact ⟨h1, h2⟩
    refine DCopy.of 1000 .done (by kernel_rfl) (CopyV.own (b := 2) (e := 81) (n := 2) (cap := cap') (m := l.length - K) (k := l.length - K) (els := (l.take K ++ [f]).map fV ++ List.replicate (z - 1) [V.s (.string ⟨#[]⟩), V.s (.string ⟨#[]⟩)]) (news := (l.drop K).map fV) (by simp only [ty49]) (by simp only [ty81]) ?_ (Src.own (by omega) ?_ ?_ (leafs_map fV_ok _)) ?_ ?_ ?_ lE (leafs_map fV_ok _) ?_ ?_ ?_) ?_
    · simp +contextual (maxSteps := 2000000) (disch := ((try unfold LIM at *); omega)) only [↓bcase_true, ↓bcase_false, WA, simprocAttr, wrap_i64]
    · simp +contextual (maxSteps := 2000000) (disch := ((try unfold LIM at *); omega)) only [↓bcase_true, ↓bcase_false, WA, simprocAttr, wrap_i64]
    · simp +contextual (maxSteps := 2000000) (disch := ((try unfold LIM at *); omega)) only [↓bcase_true, ↓bcase_false, WA, simprocAttr, wrap_i64, List.length_map]
      rw [if_pos (by omega), ← List.map_drop, List.take_of_length_le (by simp)]
    · simp only [Nat.min_def]; split <;> omega
    · simp
    · intro el he
      obtain ⟨f', _, rfl⟩ := List.mem_map.1 he; rfl
    · rw [List.length_append, lB]; omega
    · omega
    · unfold LIM; omega
    rintro v h' ⟨rfl, rfl⟩
    rw [i2]
    simp +contextual (maxSteps := 2000000) (disch := ((try unfold LIM at *); omega)) only [↓bcase_true, ↓bcase_false, WA, simprocAttr, wrap_i64]
    exact Up.own2 (b := 2) (j := l.length + 1) rfl (by decide) rfl rfl (by rw [List.take_of_length_le (by simp [insertS]; omega)]) (nrs_map fV_nr _) ⟨cap', by omega, by rw [show K + z = l.length + 1 by omega], rfl⟩
  · have c2' : ¬ (cap : Int) < ((l.length + 1 : Nat) : Int) := by omega
    have s1 : (0 : Int) ≤ ((l.length + 1 : Nat) : Int) ∧ ((l.length + 1 : Nat) : Int) ≤ cap ∧ l.length + 1 ≤ cap ∧ (0 : Int) ≤ ((K + 1 : Nat) : Int) ∧ ((K + 1 : Nat) : Int) ≤ ((l.length + 1 : Nat) : Int) ∧ ((K + 1 : Nat) : Int) < ((l.length + 1 : Nat) : Int) ∧ (K : Int) ≤ ((l.length + 1 : Nat) : Int) ∧ (K : Int) < ((l.length + 1 : Nat) : Int) := by omega
    simp +contextual (maxSteps := 2000000) (disch := ((try unfold LIM at *); omega)) only [↓bcase_true, ↓bcase_false, WA, simprocAttr, wrap_i64, p1, c1, hc, lt, c2, c2', s1, List.length_map, takeTo, lf, leafs_map fV_ok, Nat.sub_zero, cast_succ]
    refine CallThen.of 1000 (walk134 (b1 := 1) (b2 := 0) rfl rfl (by decide) (by omega) (by omega) (by omega)) ?_
    rintro r h' ⟨rfl, rfl⟩
    simp +contextual (maxSteps := 2000000) (disch := ((try unfold LIM at *); omega)) only [↓bcase_true, ↓bcase_false, WA, simprocAttr, wrap_i64, s1]
    refine DrawThen.of 1000 [0] (.old 0 (.old 1 (.old 2 (.old 3 (.old 4 (.old 5 (.old 6 (.old 7 (.go 8 .done))))))))) (panFree_body _ _) (by kernel_rfl) (by kernel_rfl) (by kernel_rfl) ?_
    have lm : (l.map fV).length = l.length := by simp
    simp +contextual (maxSteps := 2000000) (disch := ((try unfold LIM at *); omega)) only [↓bcase_true, ↓bcase_false, WA, simprocAttr, wrap_i64, s1, Nat.sub_zero, List.length_map, cast_succ]
    refine ⟨by omega, DCopy.of 1000 .done (by kernel_rfl) (CopyV.own (e := 81) (n := 2) (cap := cap) (m := l.length + 1 - K) (k := l.length - K) (els := l.map fV) (news := (l.drop K).map fV) (by simp only [ty49]) (by simp only [ty81]) ?_ (Src.own (by omega) ?_ ?_ (leafs_map fV_ok _)) ?_ ?_ ?_ (leafs_map fV_ok _) (leafs_map fV_ok _) ?_ ?_ ?_) ?_⟩
    · simp +contextual (maxSteps := 2000000) (disch := ((try unfold LIM at *); omega)) only [↓bcase_true, ↓bcase_false, WA, simprocAttr, wrap_i64]
    · simp +contextual (maxSteps := 2000000) (disch := ((try unfold LIM at *); omega)) only [↓bcase_true, ↓bcase_false, WA, simprocAttr, wrap_i64]
    · simp +contextual (maxSteps := 2000000) (disch := ((try unfold LIM at *); omega)) only [↓bcase_true, ↓bcase_false, WA, simprocAttr, wrap_i64, List.length_map]
      rw [if_pos (by omega), ← List.map_drop, List.take_of_length_le (by simp)]
    · simp only [Nat.min_def]; split <;> omega
    · simp
    · intro el he
      obtain ⟨f', _, rfl⟩ := List.mem_map.1 he; rfl
    · simp; omega
    · omega
    · unfold LIM; omega
    rintro v h' ⟨rfl, rfl⟩
    have in1 : putAt (l.map fV) (K + 1) ((l.drop K).map fV) = (l.take (K + 1) ++ l.drop K).map fV := by
      unfold putAt
      have e0 : List.drop (K + 1 + ((l.drop K).map fV).length) (l.map fV) = [] := List.drop_eq_nil_of_le (by simp; omega)
      rw [e0, List.append_nil, List.map_append, List.map_take]
    have in2 : putAt ((l.take (K + 1) ++ l.drop K).map fV) K [fV f] = (insertS l K f).map fV := by
      have e1 : (l.take (K + 1) ++ l.drop K).take K = l.take K := by
        rw [List.take_append_of_le_length (by simp; omega), List.take_take]; congr 1; omega
      have e2 : (l.take (K + 1) ++ l.drop K).drop (K + 1) = l.drop K := List.drop_left' (by simp; omega)
      unfold putAt insertS
      rw [← List.map_take, List.length_singleton, ← List.map_drop, e1, e2]; simp
    rw [in1]
    simp +contextual (maxSteps := 2000000) (disch := ((try unfold LIM at *); omega)) only [↓bcase_true, ↓bcase_false, WA, simprocAttr, wrap_i64, s1, Nat.sub_zero]
    refine ⟨by omega, CopyThen.of 1000 (CopyV.own (b := 0) (e := 81) (n := 2) (cap := cap) (m := 1) (k := 1) (els := (l.take (K + 1) ++ l.drop K).map fV) (news := [fV f]) (by simp only [ty49]) (by simp only [ty81]) rfl (Src.own (by omega) rfl rfl lf) ?_ rfl ?_ (leafs_map fV_ok _) lf ?_ ?_ ?_) ?_⟩
    · simp only [Nat.min_def]; split <;> omega
    · intro el he
      simp at he; subst he; rfl
    · simp; omega
    · omega
    · unfold LIM; omega
    rintro v h' ⟨rfl, rfl⟩
    rw [in2]
    simp +contextual (maxSteps := 2000000) (disch := ((try unfold LIM at *); omega)) only [↓bcase_true, ↓bcase_false, WA, simprocAttr, wrap_i64]
    exact Up.own2 (b := 0) (j := l.length + 1) rfl (by decide) rfl rfl (by rw [List.take_of_length_le (by simp [insertS]; omega)]) (nrs_map fV_nr _) ⟨cap, by omega, rfl, rfl⟩
end Go.Proofs.Ytpcgnmoogjahbaa
/- part D13 -/
set_option linter.unusedVariables false
set_option linter.unusedSimpArgs false
set_option maxRecDepth 100000
namespace Go.Proofs.Ytpcgnmoogjahbaa
open Go Go.W Go.RowKit
def putK (l : List Fl) (n d : ByteArray) (K : Nat) : List Fl := match l[K]? with
  | some f => if hereB l n K = true then l.set K (f.1, d) else insertS l K (n, d)
  | none => insertS l K (n, d)
theorem walk110 (l : List Fl) (n d : ByteArray) (K : Nat) (hl : l.length ≤ 1048576) (hK : Cut l n K) : OwnV C 110 2 (l.map fV) [.s (.string n), .s (.string d)] ((putK l n d K).map fV) := by
  refine ⟨nrs_map fV_nr _, nrs_map fV_nr _, fun _ => rfl, fun cap hc => ?_⟩
  rw [List.length_map] at hc ⊢
  refine calls_of_run Try.func110 rfl (by kernel_rfl) (by kernel_rfl) (by simp) 1000 ?_
  simp +contextual (maxSteps := 2000000) (disch := ((try unfold LIM at *); omega)) only [↓bcase_true, ↓bcase_false, WA, simprocAttr, wrap_i64]
  refine CallThen.borrow (walk109 l n K (by omega) hK) (flat_two _ _) 6 ?_ 1000 ?_
  · simp +contextual (maxSteps := 2000000) (disch := ((try unfold LIM at *); omega)) only [↓bcase_true, ↓bcase_false, WA, simprocAttr, wrap_i64, List.length_map, fV_frz, Nat.not_lt_zero, own_els]
  cases c : hereB l n K with
  | true =>
    have hlt := here_lt c
    obtain ⟨f, hf⟩ := get_lt (l := l) (i := K) (by omega)
    have p : (0 : Int) ≤ K ∧ (K : Int) < l.length := by omega
    simp +contextual (maxSteps := 2000000) (disch := ((try unfold LIM at *); omega)) only [↓bcase_true, ↓bcase_false, WA, simprocAttr, wrap_i64, c, p, hf, List.length_map, fV]
    have hp : (l.map fV).set K [.s (.string f.1), .s (.string d)] = (putK l n d K).map fV := by simp [putK, hf, c, fV]
    have hln : (putK l n d K).length = l.length := by simp [putK, hf, c]
    try simp +contextual (maxSteps := 2000000) (disch := ((try unfold LIM at *); omega)) only [↓bcase_true, ↓bcase_false, WA, simprocAttr, wrap_i64, hp]
    exact Up.own (b := 0) rfl (nrs_map fV_nr _) ⟨cap, by simp only [List.length_map, hln]; exact hc, by simp only [List.length_map, hln], rfl⟩
  | false =>
    have hp : putK l n d K = insertS l K (n, d) := by unfold putK; split <;> simp [c]
    have hln : ((putK l n d K).map fV).length = l.length + 1 := by rw [hp]; simp [insertS]; have := hK.1; omega
    simp +contextual (maxSteps := 2000000) (disch := ((try unfold LIM at *); omega)) only [↓bcase_true, ↓bcase_false, WA, simprocAttr, wrap_i64, c, fV]
    refine CallThen.of 1000 (walk129 l K cap (n, d) hK.1 hl hc) ?_
    rintro r h' ⟨cap', e1, rfl, rfl⟩
    simp +contextual (maxSteps := 2000000) (disch := ((try unfold LIM at *); omega)) only [↓bcase_true, ↓bcase_false, WA, simprocAttr, wrap_i64]
    exact Up.own (b := 2) rfl (nrs_map fV_nr _) ⟨cap', by simp only [List.length_map] at hln ⊢; rw [hln]; exact e1, by simp only [List.length_map] at hln ⊢; rw [hln], by rw [hp]⟩
end Go.Proofs.Ytpcgnmoogjahbaa
/- part D14 -/
set_option linter.unusedVariables false
set_option linter.unusedSimpArgs false
set_option maxRecDepth 100000
namespace Go.Proofs.Ytpcgnmoogjahbaa
open Go Go.W Go.RowKit
def dataK (l : List Fl) (n : ByteArray) (K : Nat) : ByteArray := if hereB l n K = true then ((l[K]?).map (·.2)).getD ⟨#[]⟩ else ⟨#[]⟩
def applyK (l : List Fl) (o : Opn) (K K2 : Nat) : List Fl :=
  if o.1 = 1 then putK l o.2.1 o.2.2 K
  else if o.1 = 2 then putK l o.2.1 (dataK l o.2.1 K ++ o.2.2) K
  else if o.1 = 3 then (if hereB l o.2.1 K = true then putK (withoutS l o.2.1 K) o.2.2 (dataK l o.2.1 K) K2 else l)
  else withoutS l o.2.1 K
theorem len_without (l : List Fl) (n : ByteArray) (K : Nat) : (withoutS l n K).length ≤ l.length := by
  unfold withoutS; split
  · rw [List.length_eraseIdx]; split <;> omega
  · omega
theorem walk78 (l : List Fl) (o : Opn) (K K2 : Nat) (hl : l.length ≤ 1048576) (hK : Cut l o.2.1 K) (hK2 : Cut (withoutS l o.2.1 K) o.2.2 K2) (hs : (dataK l o.2.1 K).size + o.2.2.size ≤ 9223372036854775807) : OwnV C 78 2 (l.map fV) [.agg (oV o)] ((applyK l o K K2).map fV) := by
  refine ⟨nrs_map fV_nr _, nrs_map fV_nr _, fun _ => rfl, fun cap hc => ?_⟩
  rw [List.length_map] at hc ⊢
  obtain ⟨k, n, d⟩ := o
  simp only at hK hK2 hs
  have hs' : (dataK l n K).size + d.size ≤ LIM := hs
  refine calls_of_run Try.func78 rfl (by kernel_rfl) (by kernel_rfl) (by simp) 1000 ?_
  simp +contextual (maxSteps := 2000000) (disch := ((try unfold LIM at *); omega)) only [↓bcase_true, ↓bcase_false, WA, simprocAttr, wrap_i64, oV]
  refine CallThen.borrow (walk109 l n K (by omega) hK) (flat_two _ _) 6 ?_ 1000 ?_
  · simp +contextual (maxSteps := 2000000) (disch := ((try unfold LIM at *); omega)) only [↓bcase_true, ↓bcase_false, WA, simprocAttr, wrap_i64, List.length_map, fV_frz, Nat.not_lt_zero, own_els]
  have fin : ∀ (X : List Fl) (k : Int) (cp b : Nat) (h : Go.W.H), applyK l (k, n, d) K K2 = X → X.length ≤ cp → h[b]? = some ⟨X.map fV, 2, cp, true⟩ →
      Up 1 (fun res h' => ∃ cap', (applyK l (k, n, d) K K2).length ≤ cap' ∧ res = Res.ret (V.sl 1 0 (applyK l (k, n, d) K K2).length cap') ∧ h' = [Blk.dead, ⟨(applyK l (k, n, d) K K2).map fV, 2, cap', true⟩]) (Res.ret (.sl b 0 X.length cp)) h := by
    intro X k cp b h e1 e2 e3
    rw [e1]
    exact Up.own (b := b) e3 (nrs_map fV_nr _) ⟨cp, e2, rfl, rfl⟩
  cases c : hereB l n K with
  | true =>
    have hlt := here_lt c
    obtain ⟨f, hf⟩ := get_lt (l := l) (i := K) (by omega)
    have p : (0 : Int) ≤ K ∧ (K : Int) < l.length := by omega
    have hd : dataK l n K = f.2 := by simp [dataK, c, hf]
    rw [hd] at hs'
    by_cases c1 : k = 1
    · simp +contextual (maxSteps := 2000000) (disch := ((try unfold LIM at *); omega)) only [↓bcase_true, ↓bcase_false, WA, simprocAttr, wrap_i64, c, p, hf, List.length_map, fV, c1]
      rw [show l.length = (l.map fV).length by simp]
      refine CallThen.own (walk110 l n d K hl hK) (by rfl) (by simpa using hc) 1000 fun cap' hc' => ?_
      simp +contextual (maxSteps := 2000000) (disch := ((try unfold LIM at *); omega)) only [↓bcase_true, ↓bcase_false, WA, simprocAttr, wrap_i64, List.length_map]
      exact fin _ 1 _ _ _ (by simp [applyK]) (by simpa using hc') rfl
    by_cases c2 : k = 2
    · simp +contextual (maxSteps := 2000000) (disch := ((try unfold LIM at *); omega)) only [↓bcase_true, ↓bcase_false, WA, simprocAttr, wrap_i64, c, p, hf, List.length_map, fV, c2, hs']
      rw [show l.length = (l.map fV).length by simp]
      refine CallThen.own (walk110 l n (f.2 ++ d) K hl hK) (by rfl) (by simpa using hc) 1000 fun cap' hc' => ?_
      simp +contextual (maxSteps := 2000000) (disch := ((try unfold LIM at *); omega)) only [↓bcase_true, ↓bcase_false, WA, simprocAttr, wrap_i64, List.length_map]
      exact fin _ 2 _ _ _ (by simp [applyK, hd]) (by simpa using hc') rfl
    by_cases c3 : k = 3
    · simp +contextual (maxSteps := 2000000) (disch := ((try unfold LIM at *); omega)) only [↓bcase_true, ↓bcase_false, WA, simprocAttr, wrap_i64, c, p, hf, List.length_map, fV, c3]
      refine DrawThen.of 1000 [0] (.old 0 (.old 1 (.old 2 (.old 4 (.old 5 (.old 6 (.go 3 (.go 7 (.new 8 .done))))))))) (panFree_body _ _) (by kernel_rfl) (by kernel_rfl) (by kernel_rfl) ?_
      simp +contextual (maxSteps := 2000000) (disch := ((try unfold LIM at *); omega)) only [↓bcase_true, ↓bcase_false, WA, simprocAttr, wrap_i64]
      rw [show l.length = (l.map fV).length by simp]
      refine DCall.own (walk111 l n K hl hK) (by rfl) (by simpa using hc) 1000 (.go 7 (.new 8 .done)) (by kernel_rfl) fun cap1 hc1 => ?_
      simp +contextual (maxSteps := 2000000) (disch := ((try unfold LIM at *); omega)) only [↓bcase_true, ↓bcase_false, WA, simprocAttr, wrap_i64, List.length_map]
      rw [show (withoutS l n K).length = ((withoutS l n K).map fV).length by simp]
      refine DCall.own (walk110 (withoutS l n K) d f.2 K2 (Nat.le_trans (len_without l n K) hl) hK2) (by rfl) (by simpa using hc1) 1000 (.new 8 .done) (by kernel_rfl) fun cap' hc' => ?_
      simp +contextual (maxSteps := 2000000) (disch := ((try unfold LIM at *); omega)) only [↓bcase_true, ↓bcase_false, WA, simprocAttr, wrap_i64, List.length_map]
      exact fin _ 3 _ _ _ (by simp [applyK, hd, c]) (by simpa using hc') rfl
    · simp +contextual (maxSteps := 2000000) (disch := ((try unfold LIM at *); omega)) only [↓bcase_true, ↓bcase_false, WA, simprocAttr, wrap_i64, c, p, hf, List.length_map, fV, c1, c2, c3]
      rw [show l.length = (l.map fV).length by simp]
      refine CallThen.own (walk111 l n K hl hK) (by rfl) (by simpa using hc) 1000 fun cap' hc' => ?_
      simp +contextual (maxSteps := 2000000) (disch := ((try unfold LIM at *); omega)) only [↓bcase_true, ↓bcase_false, WA, simprocAttr, wrap_i64, List.length_map]
      exact fin _ k _ _ _ (by simp [applyK, c1, c2, c3]) (by simpa using hc') rfl
  | false =>
    have hd : dataK l n K = ⟨#[]⟩ := by simp [dataK, c]
    rw [hd] at hs'
    by_cases c1 : k = 1
    · simp +contextual (maxSteps := 2000000) (disch := ((try unfold LIM at *); omega)) only [↓bcase_true, ↓bcase_false, WA, simprocAttr, wrap_i64, c, fV, c1]
      rw [show l.length = (l.map fV).length by simp]
      refine CallThen.own (walk110 l n d K hl hK) (by rfl) (by simpa using hc) 1000 fun cap' hc' => ?_
      simp +contextual (maxSteps := 2000000) (disch := ((try unfold LIM at *); omega)) only [↓bcase_true, ↓bcase_false, WA, simprocAttr, wrap_i64, List.length_map]
      exact fin _ 1 _ _ _ (by simp [applyK]) (by simpa using hc') rfl
    by_cases c2 : k = 2
    · simp +contextual (maxSteps := 2000000) (disch := ((try unfold LIM at *); omega)) only [↓bcase_true, ↓bcase_false, WA, simprocAttr, wrap_i64, c, fV, c2, hs']
      rw [show l.length = (l.map fV).length by simp]
      refine CallThen.own (walk110 l n (⟨#[]⟩ ++ d) K hl hK) (by rfl) (by simpa using hc) 1000 fun cap' hc' => ?_
      simp +contextual (maxSteps := 2000000) (disch := ((try unfold LIM at *); omega)) only [↓bcase_true, ↓bcase_false, WA, simprocAttr, wrap_i64, List.length_map]
      exact fin _ 2 _ _ _ (by simp [applyK, hd]) (by simpa using hc') rfl
    by_cases c3 : k = 3
    · simp +contextual (maxSteps := 2000000) (disch := ((try unfold LIM at *); omega)) only [↓bcase_true, ↓bcase_false, WA, simprocAttr, wrap_i64, c, fV, c3, List.length_map]
      refine fin l 3 cap 0 _ ?_ ?_ ?_
      · simp [applyK, c]
      · exact hc
      · rfl
    · simp +contextual (maxSteps := 2000000) (disch := ((try unfold LIM at *); omega)) only [↓bcase_true, ↓bcase_false, WA, simprocAttr, wrap_i64, c, fV, c1, c2, c3]
      rw [show l.length = (l.map fV).length by simp]
      refine CallThen.own (walk111 l n K hl hK) (by rfl) (by simpa using hc) 1000 fun cap' hc' => ?_
      simp +contextual (maxSteps := 2000000) (disch := ((try unfold LIM at *); omega)) only [↓bcase_true, ↓bcase_false, WA, simprocAttr, wrap_i64, List.length_map]
      exact fin _ k _ _ _ (by simp [applyK, c1, c2, c3]) (by simpa using hc') rfl
end Go.Proofs.Ytpcgnmoogjahbaa
/- part W32 -/
set_option linter.unusedVariables false
set_option linter.unusedSimpArgs false
namespace Go.W
open Go Go.RowKit

/-! ### An empty slice is a block of one's own; a new slice is answered -/
section
variable {C : Cx} {h : H} {n0 : Nat}
theorem Arr.nil (n : Nat) : Arr n0 h (h ++ [⟨[], n, 0, true⟩]) fun x x' => x' = x ∨ (x = .z ∧ x' = .sl h.length 0 0 0) := by
  intro S w0 φ w ⟨F, R⟩ hn
  have he : Ext φ (phiPush φ h.length (none, n)) := phiPush_ext (R.dom _ (Nat.le_refl _))
  refine ⟨phiPush φ h.length (none, n), ⟨_, R.step (w' := w) (bo := h.length) (b0 := h.length) (B0 := ⟨[], n, 0, true⟩) (fp0 := []) he rfl R.kept (Nat.le_refl _) (by simp) (by simp) ?_ (fun _ _ _ => rfl) (.inl rfl) (by simp) (fun q => absurd rfl q) ?_ (fun k hk => by simp at hk) (fun k hk => by simp at hk) List.nodup_nil ?_⟩,
    phiPush_extN (Nat.le_trans hn (Nat.le_refl _)), by simp; omega, fun x x' v hm r => ?_⟩
  · intro j hj
    simp at hj
    rw [phiPush_old (by omega)]; exact R.dom j (by omega)
  · intro j h1 h2
    by_cases q : j < h.length
    · rw [List.getElem?_append_left q]
    · rw [List.getElem?_eq_none (by simp; omega), List.getElem?_eq_none (by omega)]
  · unfold BlkRel; rw [if_pos rfl]
    exact ⟨none, phiPush_new, by simp, by simp, rfl, rfl, rfl⟩
  · rcases hm with rfl | ⟨rfl, rfl⟩
    · exact r.ext he
    · refine ⟨none, n, phiPush_new, Nat.le_refl _, ?_, rfl, rfl, rfl⟩
      exact r
theorem Up.nil {R : Res → H → Prop} (n : Nat) (hr : R (.ret (.sl 0 0 0 0)) [⟨[], n, 0, true⟩]) : Up 0 R (.ret .z) h := by
  have hg : gcOk [h.length] (h ++ [⟨[], n, 0, true⟩]) [⟨[], n, 0, true⟩] 0 := by
    refine ⟨rfl, by simp, by simp, fun i hi => by omega, fun i B' e hl => ?_⟩
    match i, e with
    | 0, e => simp at e; subst e; exact ⟨⟨[], n, 0, true⟩, by show (h ++ [_])[h.length]? = _; simp, rfl⟩
    | i + 1, e => simp at e
  exact ⟨.sl 0 0 0 0, _, _, (Arr.nil (n0 := 0) n).trans (Arr.gc hg), ⟨.sl h.length 0 0 0, .inr ⟨rfl, rfl⟩, .inr rfl⟩, hr⟩
theorem Up.fresh {R : Res → H → Prop} {b len cap n : Nat} {els : List (List V)} (hb : h[b]? = some ⟨els, n, cap, true⟩) (hn : nrs els = true) (hr : R (.ret (.sl 0 0 len cap)) [⟨els, n, cap, true⟩]) : Up 0 R (.ret (.sl b 0 len cap)) h := by
  have hlt : b < h.length := (List.getElem?_eq_some_iff.1 hb).1
  have hg : gcOk [b] h [⟨els, n, cap, true⟩] 0 := by
    refine ⟨rfl, by simp, by simp, fun i hi => by omega, fun i B' e hl => ?_⟩
    match i, e with
    | 0, e => simp at e; subst e; exact ⟨⟨els, n, cap, true⟩, hb, (nrs_rn _ hn).symm⟩
    | i + 1, e => simp at e
  exact ⟨.sl 0 0 len cap, _, _, Arr.gc hg, .inr rfl, hr⟩

/-- f takes frozen things and answers a slice of one's own. -/
def NewV (C : Cx) (f : Nat) (args : List V) (n : Nat) (post : List (List V)) : Prop :=
  CallsV C f args [] fun res h' => ∃ cap, post.length ≤ cap ∧ res = .ret (.sl 0 0 post.length cap) ∧ h' = [⟨post, n, cap, true⟩]
theorem NewV.at_ {f n : Nat} {args : List V} {post : List (List V)} (p : NewV C f args n post) (hp : nrs post = true) (hc : ∀ ρ, args.map (rnV ρ) = args) (H : H) :
    CallsV C f args H fun res h' => ∃ cap, post.length ≤ cap ∧ res = .ret (.sl H.length 0 post.length cap) ∧ h' = H ++ [⟨post, n, cap, true⟩] := by
  have := CallsV.frame p [] H rfl (by simp) (fun i B e => by simp at e)
  have e1 : emb [] H.length 0 = H.length := by simp [emb]
  rw [hc] at this
  refine this.mono fun res h' ⟨r, h1, ⟨cap', q1, q2, q3⟩, q4, q5⟩ => ⟨cap', q1, ?_, ?_⟩
  · subst q2; rw [q4]; simp only [rnRes, rnV, rnQ, rnC, rnP, e1]
  · subst q3
    rw [q5]
    simp only [List.map_cons, List.map_nil, setAll]
    rw [nrs_rn _ (B := ⟨post, n, cap', true⟩) hp]
variable {N m : Nat} {Q : QT} {k : List It} {τ : Tau}
theorem CallThen.new {f n : Nat} {args : List V} {post : List (List V)} {d : Option Nat} (p : NewV C f args n post) (hp : nrs post = true) (hc : ∀ ρ, args.map (rnV ρ) = args) (m : Nat)
    (hr : ∀ cap, post.length ≤ cap → Run C N n0 m Q k (upo d (.sl h.length 0 post.length cap) τ) (h ++ [⟨post, n, cap, true⟩])) : CallThen C N n0 Q f args d k τ h :=
  CallThen.of m (p.at_ hp hc h) fun res h' ⟨cap', e1, e2, e3⟩ => by subst e2; subst e3; exact hr cap' e1
theorem DCall.new {h0 : H} {exc : List Nat} {ops : Array Oper} {fuel : Nat} {listed : Array Bool} {f n : Nat} {args : List V} {post : List (List V)} {d : Option Nat} {nw : List Nat} (p : NewV C f args n post) (hp : nrs post = true) (hc : ∀ ρ, args.map (rnV ρ) = args) (m : Nat) (td : TD) (hd : drawOk ops [] listed td = true)
    (hr : ∀ cap, post.length ≤ cap → RunD C N n0 m Q k h0 exc ops fuel listed td (addN d nw) (upo d (.sl (hide h0 exc h).length 0 post.length cap) τ) (show_ h0 exc h ((hide h0 exc h) ++ [⟨post, n, cap, true⟩]))) : DCall C N n0 Q h0 exc ops fuel listed k f args d nw τ h :=
  DCall.of m td hd (p.at_ hp hc _) fun res h' ⟨cap', e1, e2, e3⟩ => by subst e2; subst e3; exact hr cap' e1
end
end Go.W
/- part D15 -/
set_option linter.unusedVariables false
set_option linter.unusedSimpArgs false
set_option maxRecDepth 100000
namespace Go.Proofs.Ytpcgnmoogjahbaa
open Go Go.W Go.RowKit
theorem walk76 (l : List Fl) (hl : l.length ≤ 1048576) : NewV C 76 [.f 2 (l.map fV)] 2 (l.map fV) := by
  refine calls_of_run Try.func76 rfl (by kernel_rfl) (by kernel_rfl) (by simp) 1000 ?_
  have q1 : l.length * 32 ≤ 140737488355328 ∧ l.length ≤ LIM := by unfold LIM; omega
  simp +contextual (maxSteps := 2000000) (disch := ((try unfold LIM at *); omega)) only [↓bcase_true, ↓bcase_false, WA, simprocAttr, wrap_i64, leafs_map fV_ok, List.length_map, q1, takeTo, List.take_length, take_map_len]
  intro r hr
  cases r with
  | true =>
    simp +contextual (maxSteps := 2000000) (disch := ((try unfold LIM at *); omega)) only [↓bcase_true, ↓bcase_false, WA, simprocAttr, wrap_i64]
    have e : l = [] := by
      cases l with
      | nil => rfl
      | cons a b => exact absurd (hr (by simp)) (by simp)
    subst e
    exact Up.nil 2 ⟨0, by simp, rfl, rfl⟩
  | false =>
    simp +contextual (maxSteps := 2000000) (disch := ((try unfold LIM at *); omega)) only [↓bcase_true, ↓bcase_false, WA, simprocAttr, wrap_i64, leafs_map fV_ok, List.length_map, q1, takeTo, List.take_length, take_map_len]
    intro cap' hc _
    exact Up.fresh (b := 1) rfl (nrs_map fV_nr _) ⟨cap', hc, rfl, rfl⟩
end Go.Proofs.Ytpcgnmoogjahbaa
/- part D16 -/
set_option linter.unusedVariables false
set_option linter.unusedSimpArgs false
set_option maxRecDepth 100000
namespace Go.Proofs.Ytpcgnmoogjahbaa
open Go Go.W Go.RowKit
theorem cmp_less : ∀ a b : List UInt8, (Lib.compareBytes a b < 0 ↔ Op.bytesLess a b = true) ∧ (Lib.compareBytes a b = 0 ↔ a = b) ∧ (0 < Lib.compareBytes a b ↔ Op.bytesLess b a = true)
  | [], [] => by simp [Lib.compareBytes, Op.bytesLess]
  | [], _ :: _ => by simp [Lib.compareBytes, Op.bytesLess]
  | _ :: _, [] => by simp [Lib.compareBytes, Op.bytesLess]
  | x :: a, y :: b => by
    have ih := cmp_less a b
    unfold Lib.compareBytes Op.bytesLess
    by_cases hxy : x = y
    · subst hxy
      have hlt : ¬ x < x := UInt8.lt_irrefl x
      simp only [hlt, if_false, decide_false, Bool.false_or, beq_self_eq_true, Bool.true_and, List.cons.injEq, true_and]
      exact ih
    · have hne : (x == y) = false := by simpa using hxy
      have hne' : (y == x) = false := by simpa using fun e => hxy e.symm
      by_cases hlt : x < y
      · have : ¬ y < x := UInt8.lt_asymm hlt
        simp [hlt, this, hne, hne', hxy]
      · have : y < x := UInt8.lt_of_le_of_ne (UInt8.not_lt.1 hlt) (Ne.symm hxy)
        simp [hlt, this, hne, hne', hxy]
theorem data_eq {a b : ByteArray} : a.data.toList = b.data.toList ↔ a = b := by
  constructor
  · intro h; exact ByteArray.ext (Array.toList_inj.1 h)
  · rintro rfl; rfl
theorem ltB_cmp (a b : ByteArray) : cmpB a b < 0 ↔ ltB a b = true := by
  unfold cmpB ltB; rw [ByteArray.toList_eq, ByteArray.toList_eq]; exact (cmp_less _ _).1
theorem eq_cmp (a b : ByteArray) : cmpB a b = 0 ↔ a = b := by
  unfold cmpB; rw [(cmp_less _ _).2.1]; exact data_eq
theorem gt_cmp (a b : ByteArray) : 0 < cmpB a b ↔ ltB b a = true := by
  unfold cmpB ltB; rw [ByteArray.toList_eq, ByteArray.toList_eq]; exact (cmp_less _ _).2.2
theorem leB_not (a b : ByteArray) : leB b a = !ltB a b := by
  have h1 := ltB_cmp a b
  have h2 := eq_cmp a b
  have h3 := gt_cmp a b
  have e : leB b a = (ltB b a || decide (b = a)) := rfl
  rw [e]
  rcases Int.lt_trichotomy (cmpB a b) 0 with h | h | h
  · have n1 : ltB b a = false := by cases q : ltB b a with | false => rfl | true => exact absurd (h3.2 q) (by omega)
    have n2 : ¬ b = a := fun q => absurd (h2.2 q.symm) (by omega)
    rw [h1.1 h, n1]; simp [n2]
  · have n1 : ltB a b = false := by cases q : ltB a b with | false => rfl | true => exact absurd (h1.2 q) (by omega)
    rw [n1]; simp [(h2.1 h).symm]
  · have n1 : ltB a b = false := by cases q : ltB a b with | false => rfl | true => exact absurd (h1.2 q) (by omega)
    rw [n1, h3.1 h]; rfl
theorem less_trans : ∀ a b c : List UInt8, Op.bytesLess a b = true → Op.bytesLess b c = true → Op.bytesLess a c = true
  | _, [], _ => by intro h; cases ‹List UInt8› <;> simp [Op.bytesLess] at h
  | [], _ :: _, [] => by simp [Op.bytesLess]
  | [], _ :: _, _ :: _ => by simp [Op.bytesLess]
  | _ :: _, _ :: _, [] => by simp [Op.bytesLess]
  | x :: a, y :: b, z :: c => by
    simp only [Op.bytesLess, Bool.or_eq_true, decide_eq_true_eq, Bool.and_eq_true, beq_iff_eq]
    rintro (h1 | ⟨rfl, h1⟩) (h2 | ⟨rfl, h2⟩)
    · exact .inl (UInt8.lt_trans h1 h2)
    · exact .inl h1
    · exact .inl h2
    · exact .inr ⟨rfl, less_trans a b c h1 h2⟩
theorem ltB_trans {a b c : ByteArray} (h1 : ltB a b = true) (h2 : ltB b c = true) : ltB a c = true := less_trans _ _ _ h1 h2
theorem asc_cons {a b : Fl} {r : List Fl} : ascS (a :: b :: r) = true ↔ ltB a.1 b.1 = true ∧ ascS (b :: r) = true := by
  rw [ascS, leB_not, Bool.not_not, Bool.and_eq_true]
theorem asc_pair : ∀ {l : List Fl}, ascS l = true → l.Pairwise fun a b => ltB a.1 b.1 = true
  | [], _ => List.Pairwise.nil
  | [a], _ => List.pairwise_singleton _ _
  | a :: b :: r, h => by
    obtain ⟨h1, h2⟩ := asc_cons.1 h
    have ih := asc_pair h2
    refine List.Pairwise.cons (fun c hc => ?_) ih
    rcases List.mem_cons.1 hc with rfl | hc
    · exact h1
    · exact ltB_trans h1 (List.rel_of_pairwise_cons ih hc)
theorem pair_asc : ∀ {l : List Fl}, l.Pairwise (fun a b => ltB a.1 b.1 = true) → ascS l = true
  | [], _ => rfl
  | [a], _ => rfl
  | a :: b :: r, h => asc_cons.2 ⟨List.rel_of_pairwise_cons h (List.mem_cons_self), pair_asc (List.Pairwise.of_cons h)⟩
/-- On ascending files: where those begin that are not below n. -/
theorem cut_tw {l : List Fl} (h : ascS l = true) (n : ByteArray) : Cut l n (l.takeWhile fun f => ltB f.1 n).length := by
  refine ⟨(List.takeWhile_prefix _).length_le, ?_⟩
  have hp := asc_pair h
  clear h
  induction l with
  | nil => intro k f hf; simp at hf
  | cons a r ih =>
    intro k f hf
    rw [ltB_cmp]
    by_cases ha : ltB a.1 n = true
    · rw [List.takeWhile_cons_of_pos (p := fun f : Fl => ltB f.1 n) ha]
      cases k with
      | zero => simp only [List.getElem?_cons_zero, Option.some.injEq] at hf; subst hf; simp [ha]
      | succ k =>
        simp only [List.getElem?_cons_succ] at hf
        have := ih (List.Pairwise.of_cons hp) k f hf
        rw [ltB_cmp] at this
        rw [this, List.length_cons]; omega
    · rw [List.takeWhile_cons_of_neg (p := fun f : Fl => ltB f.1 n) ha]
      simp only [List.length_nil, Nat.not_lt_zero, iff_false]
      intro hf2
      apply ha
      cases k with
      | zero => simp only [List.getElem?_cons_zero, Option.some.injEq] at hf; subst hf; exact hf2
      | succ k =>
        simp only [List.getElem?_cons_succ] at hf
        exact ltB_trans (List.rel_of_pairwise_cons hp (List.mem_of_getElem? hf)) hf2
theorem here_iff (l : List Fl) (n : ByteArray) (K : Nat) : hereB l n K = true ↔ ∃ f, l[K]? = some f ∧ f.1 = n := by
  unfold hereB
  cases h : l[K]? with
  | none => simp
  | some f =>
    simp only [decide_eq_true_eq, Option.some.injEq, exists_eq_left']
    exact eq_cmp _ _
/-- What get finds on ascending files. -/
theorem get_here {l : List Fl} (h : ascS l = true) (n : ByteArray) {K : Nat} (hK : K = (l.takeWhile fun f => ltB f.1 n).length) :
    (getS l n).2 = hereB l n K ∧ ∀ f, l[K]? = some f → f.1 = n → (getS l n).1 = f.2 := by
  have hp := asc_pair h
  clear h
  subst hK
  induction l with
  | nil => exact ⟨rfl, fun f hf => by simp at hf⟩
  | cons a r ih =>
    have ih := ih (List.Pairwise.of_cons hp)
    by_cases ha : ltB a.1 n = true
    · have hne : a.1 ≠ n := by
        intro e
        have := (eq_cmp a.1 n).2 e
        have := (ltB_cmp a.1 n).2 ha
        omega
      rw [List.takeWhile_cons_of_pos (p := fun f : Fl => ltB f.1 n) ha, getS, if_neg hne, List.length_cons]
      refine ⟨?_, fun f hf hn => ?_⟩
      · rw [ih.1]; unfold hereB; rw [List.getElem?_cons_succ]
      · rw [List.getElem?_cons_succ] at hf; exact ih.2 f hf hn
    · rw [List.takeWhile_cons_of_neg (p := fun f : Fl => ltB f.1 n) ha, getS]
      simp only [List.length_nil]
      by_cases e : a.1 = n
      · rw [if_pos e]
        refine ⟨?_, fun f hf hn => by simp only [List.getElem?_cons_zero, Option.some.injEq] at hf; subst hf; rfl⟩
        exact ((here_iff _ _ _).2 ⟨a, rfl, e⟩).symm
      · rw [if_neg e]
        refine ⟨?_, fun f hf hn => by simp only [List.getElem?_cons_zero, Option.some.injEq] at hf; subst hf; exact absurd hn e⟩
        have h1 : hereB (a :: r) n 0 = false := by
          cases q : hereB (a :: r) n 0 with
          | false => rfl
          | true => obtain ⟨f, hf, hn⟩ := (here_iff _ _ _).1 q; simp only [List.getElem?_cons_zero, Option.some.injEq] at hf; subst hf; exact absurd hn e
        rw [h1]
        -- all others are above a, and a is above n
        have hgt : ltB n a.1 = true := by
          rcases Int.lt_trichotomy (cmpB a.1 n) 0 with q | q | q
          · exact absurd ((ltB_cmp _ _).1 q) ha
          · exact absurd ((eq_cmp _ _).1 q) e
          · exact (gt_cmp _ _).1 q
        have none : ∀ (m : List Fl), (∀ f ∈ m, ltB a.1 f.1 = true) → (getS m n).2 = false := by
          intro m
          induction m with
          | nil => intro _; rfl
          | cons b s ih2 =>
            intro hb
            have hbn : b.1 ≠ n := by
              intro e2
              have h3 := ltB_trans hgt (hb b List.mem_cons_self)
              rw [e2] at h3
              have h4 := (ltB_cmp n n).2 h3
              have h5 := (eq_cmp n n).2 rfl
              omega
            rw [getS, if_neg hbn]
            exact ih2 fun f hf => hb f (List.mem_cons_of_mem _ hf)
        exact none r fun f hf => List.rel_of_pairwise_cons hp hf
theorem asc_drop {l : List Fl} (h : ascS l = true) (n : ByteArray) : ascS (dropS l n) = true := pair_asc ((asc_pair h).filter _)
theorem not_lt {a b : ByteArray} (h : ¬ ltB a b = true) (hne : a ≠ b) : ltB b a = true := by
  rcases Int.lt_trichotomy (cmpB a b) 0 with q | q | q
  · exact absurd ((ltB_cmp _ _).1 q) h
  · exact absurd ((eq_cmp _ _).1 q) hne
  · exact (gt_cmp _ _).1 q
theorem asc_put {l : List Fl} (h : ascS l = true) (n d : ByteArray) : ascS (putS l n d) = true := by
  have hp := asc_pair h
  apply pair_asc
  unfold putS
  have hl := List.takeWhile_append_dropWhile (p := fun f : Fl => ltB f.1 n) (l := l)
  rw [← hl] at hp
  have hp' := List.pairwise_append.1 hp
  have hlow : ∀ f ∈ l.takeWhile (fun f : Fl => ltB f.1 n), ltB f.1 n = true := fun f hf => by
    have := List.all_takeWhile (p := fun f : Fl => ltB f.1 n) (l := l)
    exact List.all_eq_true.1 this f hf
  -- what stands behind is above n
  have hrest : ∀ g ∈ (match l.dropWhile (fun f : Fl => ltB f.1 n) with | [] => [] | f :: r => if f.1 = n then r else f :: r), ltB n g.1 = true := by
    cases hd : l.dropWhile (fun f : Fl => ltB f.1 n) with
    | nil => intro g hg; simp at hg
    | cons f r =>
      have hf : ¬ ltB f.1 n = true := by
        have := List.head?_dropWhile_not (fun f : Fl => ltB f.1 n) l
        rw [hd] at this; simpa using this
      rw [hd] at hp'
      have hfr := hp'.2.1
      simp only
      split
      · rename_i e
        intro g hg
        have := List.rel_of_pairwise_cons hfr hg
        rwa [e] at this
      · rename_i e
        intro g hg
        have hnf := not_lt hf e
        rcases List.mem_cons.1 hg with rfl | hg
        · exact hnf
        · exact ltB_trans hnf (List.rel_of_pairwise_cons hfr hg)
  have hsub : (match l.dropWhile (fun f : Fl => ltB f.1 n) with | [] => [] | f :: r => if f.1 = n then r else f :: r : List Fl).Pairwise fun a b => ltB a.1 b.1 = true := by
    cases hd : l.dropWhile (fun f : Fl => ltB f.1 n) with
    | nil => exact List.Pairwise.nil
    | cons f r =>
      rw [hd] at hp'
      simp only
      split
      · exact List.Pairwise.of_cons hp'.2.1
      · exact hp'.2.1
  refine List.pairwise_append.2 ⟨hp'.1, List.Pairwise.cons hrest hsub, fun a ha b hb => ?_⟩
  rcases List.mem_cons.1 hb with rfl | hb
  · exact hlow a ha
  · exact ltB_trans (hlow a ha) (hrest b hb)
theorem asc_do {l : List Fl} (h : ascS l = true) (o : Opn) : ascS (doS l o) = true := by
  unfold doS
  split
  · exact asc_put h _ _
  · split
    · exact asc_put h _ _
    · split
      · exact asc_put (asc_drop h _) _ _
      · split
        · exact asc_drop h _
        · exact h
end Go.Proofs.Ytpcgnmoogjahbaa
/- part D17 -/
set_option linter.unusedVariables false
set_option linter.unusedSimpArgs false
set_option maxRecDepth 100000
namespace Go.Proofs.Ytpcgnmoogjahbaa
open Go Go.W Go.RowKit
def cutN (l : List Fl) (n : ByteArray) : Nat := (l.takeWhile fun f => ltB f.1 n).length
theorem ltB_ne {a b : ByteArray} (h : ltB a b = true) : a ≠ b := by
  intro e
  have h1 := (ltB_cmp a b).2 h
  have h2 := (eq_cmp a b).2 e
  omega
theorem split_at (l : List Fl) (n : ByteArray) (h : ascS l = true) : ∃ a b, l = a ++ b ∧ l.takeWhile (fun f => ltB f.1 n) = a ∧ l.dropWhile (fun f => ltB f.1 n) = b ∧ cutN l n = a.length ∧ (∀ f ∈ a, f.1 ≠ n) ∧ (∀ f r, b = f :: r → ∀ g ∈ r, g.1 ≠ n) := by
  refine ⟨_, _, (List.takeWhile_append_dropWhile (p := fun f : Fl => ltB f.1 n) (l := l)).symm, rfl, rfl, rfl, fun f hf => ?_, fun f r e g hg => ?_⟩
  · have := List.all_takeWhile (p := fun f : Fl => ltB f.1 n) (l := l)
    exact ltB_ne (List.all_eq_true.1 this f hf)
  · have hf : ¬ ltB f.1 n = true := by
      have := List.head?_dropWhile_not (fun f : Fl => ltB f.1 n) l
      rw [e] at this; simpa using this
    have hp := asc_pair h
    rw [← List.takeWhile_append_dropWhile (p := fun f : Fl => ltB f.1 n) (l := l)] at hp
    have hp' := (List.pairwise_append.1 hp).2.1
    rw [e] at hp'
    have hfg := List.rel_of_pairwise_cons hp' hg
    by_cases q : f.1 = n
    · rw [q] at hfg; exact fun e2 => ltB_ne hfg e2.symm
    · exact fun e2 => ltB_ne (ltB_trans (not_lt hf q) hfg) e2.symm
theorem here_at {l a b : List Fl} {n : ByteArray} (e : l = a ++ b) : hereB l n a.length = match b with | f :: _ => decide (f.1 = n) | [] => false := by
  subst e
  unfold hereB
  rw [List.getElem?_append_right (Nat.le_refl _), Nat.sub_self]
  cases b with
  | nil => rfl
  | cons f r =>
    simp only [List.getElem?_cons_zero]
    by_cases q : f.1 = n
    · simp [q, (eq_cmp n n).2 rfl]
    · simp [q, eq_cmp]
theorem get_of (l : List Fl) (n : ByteArray) : ∀ (a b : List Fl), (∀ f ∈ a, f.1 ≠ n) → getS (a ++ b) n = getS b n
  | [], b, _ => rfl
  | f :: a, b, h => by
    rw [List.cons_append, getS, if_neg (h f (by simp)), get_of l n a b fun g hg => h g (by simp [hg])]
theorem get_none : ∀ (b : List Fl) (n : ByteArray), (∀ f ∈ b, f.1 ≠ n) → getS b n = (⟨#[]⟩, false)
  | [], _, _ => rfl
  | f :: b, n, h => by rw [getS, if_neg (h f (by simp)), get_none b n fun g hg => h g (by simp [hg])]
theorem drop_none (b : List Fl) (n : ByteArray) (h : ∀ f ∈ b, f.1 ≠ n) : dropS b n = b := by
  unfold dropS
  exact List.filter_eq_self.2 fun f hf => by simpa using h f hf
/-- On ascending files: what is looked for by halves is what is looked for one by one. -/
theorem get_cut (l : List Fl) (n : ByteArray) (h : ascS l = true) : getS l n = (dataK l n (cutN l n), hereB l n (cutN l n)) := by
  obtain ⟨a, b, e, _, _, e3, h1, h2⟩ := split_at l n h
  have hh := here_at (n := n) e
  rw [e3]
  unfold dataK
  rw [hh]
  subst e
  rw [get_of (a ++ b) n a b h1, List.getElem?_append_right (Nat.le_refl _), Nat.sub_self]
  cases b with
  | nil => rfl
  | cons f r =>
    rw [getS]
    by_cases q : f.1 = n
    · simp [q]
    · rw [if_neg q, get_none r n (h2 f r rfl)]; simp [q]
theorem without_drop (l : List Fl) (n : ByteArray) (h : ascS l = true) : withoutS l n (cutN l n) = dropS l n := by
  obtain ⟨a, b, e, _, _, e3, h1, h2⟩ := split_at l n h
  have hh := here_at (n := n) e
  rw [e3]
  unfold withoutS
  rw [hh]
  subst e
  have ha : dropS a n = a := drop_none a n h1
  have hd : dropS (a ++ b) n = a ++ dropS b n := by unfold dropS at *; rw [List.filter_append, ha]
  rw [hd]
  cases b with
  | nil => simp [dropS]
  | cons f r =>
    have hr : dropS r n = r := drop_none r n (h2 f r rfl)
    by_cases q : f.1 = n
    · simp only [q, decide_true, if_true]
      rw [List.eraseIdx_append_of_length_le (Nat.le_refl _), Nat.sub_self, List.eraseIdx_cons_zero]
      unfold dropS at *
      rw [List.filter_cons_of_neg (by simp [q]), hr]
    · simp only [q, decide_false, Bool.false_eq_true, if_false]
      unfold dropS at *
      rw [List.filter_cons_of_pos (by simp [q]), hr]
theorem put_put (l : List Fl) (n d : ByteArray) (h : ascS l = true) : putK l n d (cutN l n) = putS l n d := by
  obtain ⟨a, b, e, e1, e2, e3, h1, h2⟩ := split_at l n h
  have hh := here_at (n := n) e
  unfold putK putS
  rw [e3, hh, e1, e2]
  subst e
  rw [List.getElem?_append_right (Nat.le_refl _), Nat.sub_self]
  unfold insertS
  cases b with
  | nil => simp
  | cons f r =>
    by_cases q : f.1 = n
    · simp [q]
    · simp [q]
theorem cut_cutN {l : List Fl} (h : ascS l = true) (n : ByteArray) : Cut l n (cutN l n) := cut_tw h n
/-- On ascending files the program's step is the reference's. -/
theorem apply_do (l : List Fl) (o : Opn) (h : ascS l = true) (h1 : 1 ≤ o.1) (h4 : o.1 ≤ 4) : applyK l o (cutN l o.2.1) (cutN (withoutS l o.2.1 (cutN l o.2.1)) o.2.2) = doS l o := by
  unfold applyK doS
  have g := get_cut l o.2.1 h
  by_cases c1 : o.1 = 1
  · simp only [c1, if_true]; exact put_put l _ _ h
  by_cases c2 : o.1 = 2
  · simp only [c2, if_true]; rw [g]; exact put_put l _ _ h
  by_cases c3 : o.1 = 3
  · simp only [c3, true_and, if_true]
    rw [g]
    rw [without_drop l _ h]
    cases c : hereB l o.2.1 (cutN l o.2.1) with
    | true => simp only [if_true]; exact put_put _ _ _ (asc_drop h _)
    | false => simp
  · have c4 : o.1 = 4 := by omega
    simp only [c4]
    simpa using without_drop l _ h
end Go.Proofs.Ytpcgnmoogjahbaa
/- part D18 -/
set_option linter.unusedVariables false
set_option linter.unusedSimpArgs false
set_option maxRecDepth 100000
namespace Go.Proofs.Ytpcgnmoogjahbaa
open Go Go.W Go.RowKit
theorem walk33 (fl : List Fl) (ol : List Opn) (cap : Int) (hf : fl.length ≤ 1048576) (ho : ol.length ≤ 1048576) (hb : sizeF fl ≤ 1048576) (hs : ∀ o ∈ ol, oneO o ≤ 1048576) :
    PureV C 33 [.agg (dV fl ol cap)] (.s (.bool (diskOk fl ol cap))) := by
  refine pure_of_run Try.func33 rfl (by kernel_rfl) (by kernel_rfl) (by simp) (fun _ => rfl) (fun _ => rfl) 6 1000 ?_
  simp +contextual (maxSteps := 2000000) (disch := ((try unfold LIM at *); omega)) only [↓bcase_true, ↓bcase_false, WA, simprocAttr, wrap_i64, dV]
  refine CallThen.pure (walk74 cap 0 1000000) 1000 ?_
  by_cases c1 : 0 ≤ cap ∧ cap ≤ 1000000
  rotate_left
  · have c1' : cap < 0 ∨ 1000000 < cap ∨ 2000 < ol.length ∨ ¬ fits fl cap := by omega
    simp +contextual (maxSteps := 2000000) (disch := ((try unfold LIM at *); omega)) only [↓bcase_true, ↓bcase_false, WA, simprocAttr, wrap_i64, c1, diskOk, c1']
  simp +contextual (maxSteps := 2000000) (disch := ((try unfold LIM at *); omega)) only [↓bcase_true, ↓bcase_false, WA, simprocAttr, wrap_i64, c1]
  refine CallThen.pure (walk75 fl cap (by omega)) 1000 ?_
  by_cases c2 : fits fl cap
  rotate_left
  · have c1' : cap < 0 ∨ 1000000 < cap ∨ 2000 < ol.length ∨ ¬ fits fl cap := by simp [c2]
    simp +contextual (maxSteps := 2000000) (disch := ((try unfold LIM at *); omega)) only [↓bcase_true, ↓bcase_false, WA, simprocAttr, wrap_i64, c2, diskOk, c1']
  by_cases c3 : (2000 : Int) < ol.length
  · have c1' : cap < 0 ∨ 1000000 < cap ∨ 2000 < ol.length ∨ ¬ fits fl cap := by omega
    have hd : diskOk fl ol cap = false := by rw [diskOk, if_pos c1']
    simp +contextual (maxSteps := 2000000) (disch := ((try unfold LIM at *); omega)) only [↓bcase_true, ↓bcase_false, WA, simprocAttr, wrap_i64, c1, c2, c3, hd, List.length_map]
  have c4 : ¬ (cap < 0 ∨ 1000000 < cap ∨ 2000 < ol.length ∨ ¬ fits fl cap) := by rintro (q | q | q | q) <;> first | omega | exact q c2
  simp +contextual (maxSteps := 2000000) (disch := ((try unfold LIM at *); omega)) only [↓bcase_true, ↓bcase_false, WA, simprocAttr, wrap_i64, c1, c2, c3, List.length_map]
  intro _ _
  refine LoopThen.pure (ι := Nat) (fun i => i ≤ fl.length ∧ ascS (fl.drop (i - 1)) = ascS fl) (fun i => keepL [(1, .pd (dV fl ol cap)), (27, .f 2 (fl.map fV)), (28, .s (.int .i64 fl.length)), (29, .s (.int .i64 i))]) (fun i => fl.length - i) 6 [1, 27, 28, 29] 1000 1000 ⟨0, ⟨Nat.zero_le _, rfl⟩, by simp +contextual (maxSteps := 2000000) (disch := ((try unfold LIM at *); omega)) only [↓bcase_true, ↓bcase_false, WA, simprocAttr, wrap_i64, dV]⟩ ?_
  rintro i ⟨p1, p2⟩
  by_cases d2 : (i : Int) < fl.length
  · obtain ⟨b, hb'⟩ := get_lt d2
    cases i with
    | zero =>
      have d3 : (0 : Int) < fl.length := by simpa using d2
      have hb0 : fl[0]? = some b := hb'
      simp +contextual (maxSteps := 2000000) (disch := ((try unfold LIM at *); omega)) only [↓bcase_true, ↓bcase_false, WA, simprocAttr, wrap_i64, dV, fV, List.length_map, d3, hb0]
      refine DrawThen.of 1000 [] (.old 0 (.old 1 (.old 2 (.old 3 (.old 4 (.old 5 (.old 6 (.old 7 (.old 8 (.old 9 (.old 10 (.old 11 (.old 12 (.old 13 .done)))))))))))))) (panFree_loopP (panFree_pure _ _ _)) (by kernel_rfl) (by kernel_rfl) (by kernel_rfl) ?_
      simp +contextual (maxSteps := 2000000) (disch := ((try unfold LIM at *); omega)) only [↓bcase_true, ↓bcase_false, WA, simprocAttr, wrap_i64, dV, List.length_map]
      exact ⟨1, ⟨⟨by omega, rfl⟩, by omega⟩, rfl⟩
    | succ j =>
      obtain ⟨a, ha⟩ := get_lt (show (j : Int) < fl.length by omega)
      have key : ascS fl = (!(leB b.1 a.1) && ascS (fl.drop (j + 1))) := by rw [← p2, Nat.add_sub_cancel, drop_cons ha, drop_cons hb', ascS]
      have pj : (0 : Int) ≤ ((j + 1 : Nat) : Int) ∧ (0 : Int) ≤ (j : Int) ∧ (0 : Int) < ((j + 1 : Nat) : Int) := by omega
      simp +contextual (maxSteps := 2000000) (disch := ((try unfold LIM at *); omega)) only [↓bcase_true, ↓bcase_false, WA, simprocAttr, wrap_i64, dV, fV, List.length_map, d2, pj, hb']
      refine DrawThen.of 1000 [] (.old 0 (.old 1 (.old 2 (.old 3 (.old 4 (.old 5 (.old 6 (.old 7 (.old 8 (.old 9 (.old 10 (.old 11 (.old 12 (.old 13 .done)))))))))))))) (panFree_loopP (panFree_pure _ _ _)) (by kernel_rfl) (by kernel_rfl) (by kernel_rfl) ?_
      simp +contextual (maxSteps := 2000000) (disch := ((try unfold LIM at *); omega)) only [↓bcase_true, ↓bcase_false, WA, simprocAttr, wrap_i64, dV, List.length_map, cast_pred, ha, hb', pj, fV]
      have lt : ltB a.1 b.1 = !leB b.1 a.1 := by rw [leB_not, Bool.not_not]
      have lt' : Op.bytesLess a.1.toList b.1.toList = !leB b.1 a.1 := lt
      cases c5 : leB b.1 a.1 with
      | true =>
        rw [c5] at key lt'
        have hd : diskOk fl ol cap = false := by rw [diskOk, if_neg c4, if_pos (by rw [key]; rfl)]
        simp +contextual (maxSteps := 2000000) (disch := ((try unfold LIM at *); omega)) only [↓bcase_true, ↓bcase_false, WA, simprocAttr, wrap_i64, lt', hd]
      | false =>
        rw [c5] at key lt'
        simp +contextual (maxSteps := 2000000) (disch := ((try unfold LIM at *); omega)) only [↓bcase_true, ↓bcase_false, WA, simprocAttr, wrap_i64, lt', cast_succ]
        exact ⟨j + 1 + 1, ⟨⟨by omega, by rw [key]; rfl⟩, by omega⟩, rfl⟩
  · have asc : ascS fl = true := by rw [← p2]; exact ascS_short (by simp; omega)
    have hd : diskOk fl ol cap = okS fl ol cap := by rw [diskOk, if_neg c4, if_neg (by simp [asc])]
    simp +contextual (maxSteps := 2000000) (disch := ((try unfold LIM at *); omega)) only [↓bcase_true, ↓bcase_false, WA, simprocAttr, wrap_i64, dV, List.length_map, d2]
    refine CallThen.new (walk76 fl hf) (nrs_map fV_nr _) (fun _ => rfl) 1000 fun cap0 hc0 => ?_
    rw [List.length_map] at hc0
    simp +contextual (maxSteps := 2000000) (disch := ((try unfold LIM at *); omega)) only [↓bcase_true, ↓bcase_false, WA, simprocAttr, wrap_i64, dV, List.length_map]
    intro _
    refine LoopThen.own (ι := Nat × List Fl × Nat) (fun p => p.1 ≤ ol.length ∧ fits p.2.1 cap ∧ ascS p.2.1 = true ∧ p.2.1.length ≤ p.2.2 ∧ okS p.2.1 (ol.drop p.1) cap = okS fl ol cap)
      (fun p => [(1, .pd (dV fl ol cap)), (5, .sl 0 0 p.2.1.length p.2.2), (53, .f 3 (ol.map oV)), (54, .s (.int .i64 ol.length)), (55, .s (.int .i64 p.1))])
      (fun p => [⟨p.2.1.map fV, 2, p.2.2, true⟩]) (fun p => ol.length - p.1) 1000 1000
      ⟨(0, fl, cap0), ⟨Nat.zero_le _, c2, asc, hc0, rfl⟩, [0], by simp, by simp +contextual (maxSteps := 2000000) (disch := ((try unfold LIM at *); omega)) only [↓bcase_true, ↓bcase_false, WA, simprocAttr, wrap_i64, true_or, nrs_map fV_nr], by simp +contextual (maxSteps := 2000000) (disch := ((try unfold LIM at *); omega)) only [↓bcase_true, ↓bcase_false, WA, simprocAttr, wrap_i64, dV, List.length_map]⟩ ?_
    rintro ⟨i, l, cp⟩ ⟨p1, p3, pa, pc, p2⟩
    simp only at p1 p3 pa pc p2
    by_cases d3 : (i : Int) < ol.length
    · obtain ⟨o, hoo⟩ := get_lt d3
      have pi : (0 : Int) ≤ i := by omega
      simp +contextual (maxSteps := 2000000) (disch := ((try unfold LIM at *); omega)) only [↓bcase_true, ↓bcase_false, WA, simprocAttr, wrap_i64, dV, oV, List.length_map, d3, hoo, pi]
      have key : okS fl ol cap = if o.1 < 1 ∨ 4 < o.1 then false else if fits (doS l o) cap then okS (doS l o) (ol.drop (i + 1)) cap else false := by rw [← p2]; simp only [drop_cons hoo, okS]
      refine CallThen.pure (walk77 o) 1000 ?_
      by_cases e1 : 1 ≤ o.1 ∧ o.1 ≤ 4
      rotate_left
      · rw [if_pos (by omega)] at key
        simp +contextual (maxSteps := 2000000) (disch := ((try unfold LIM at *); omega)) only [↓bcase_true, ↓bcase_false, WA, simprocAttr, wrap_i64, e1, hd, key]
      rw [if_neg (by omega)] at key
      have f1 : l.length ≤ 20 := p3.1
      have f2 : (sizeF l : Int) ≤ cap := p3.2
      have b1 := do_bound l o
      have b2 := sizeF_get l o.2.1
      have b3 := hs o (List.mem_of_getElem? hoo)
      simp only [oneO] at b3
      have b4 := get_cut l o.2.1 pa
      rw [b4] at b2
      have ad := apply_do l o pa e1.1 e1.2
      have ac := asc_do pa o
      have wa : ascS (withoutS l o.2.1 (cutN l o.2.1)) = true := by rw [without_drop l _ pa]; exact asc_drop pa _
      have w78 := walk78 l o _ _ (by omega) (cut_cutN pa o.2.1) (cut_cutN wa o.2.2) (by simp only at b2; omega)
      rw [ad] at w78
      simp +contextual (maxSteps := 2000000) (disch := ((try unfold LIM at *); omega)) only [↓bcase_true, ↓bcase_false, WA, simprocAttr, wrap_i64, e1]
      rw [show l.length = (l.map fV).length by simp]
      refine CallThen.own w78 (by rfl) (by simpa using pc) 1000 fun cp' hc' => ?_
      rw [List.length_map] at hc'
      simp +contextual (maxSteps := 2000000) (disch := ((try unfold LIM at *); omega)) only [↓bcase_true, ↓bcase_false, WA, simprocAttr, wrap_i64, List.length_map, dV]
      refine CallThen.borrow (walk75 (doS l o) cap (by omega)) (flat_s _) 6 ?_ 1000 ?_
      · simp +contextual (maxSteps := 2000000) (disch := ((try unfold LIM at *); omega)) only [↓bcase_true, ↓bcase_false, WA, simprocAttr, wrap_i64, List.length_map, fV_frz, Nat.not_lt_zero, own_els]
      by_cases e4 : fits (doS l o) cap
      · rw [if_pos e4] at key
        simp +contextual (maxSteps := 2000000) (disch := ((try unfold LIM at *); omega)) only [↓bcase_true, ↓bcase_false, WA, simprocAttr, wrap_i64, e4, cast_succ]
        exact ⟨(i + 1, doS l o, cp'), ⟨⟨by omega, e4, ac, hc', key.symm⟩, by simp only; omega⟩, [2], by simp, by simp +contextual (maxSteps := 2000000) (disch := ((try unfold LIM at *); omega)) only [↓bcase_true, ↓bcase_false, WA, simprocAttr, wrap_i64, true_or, nrs_map fV_nr], by simp +contextual (maxSteps := 2000000) (disch := ((try unfold LIM at *); omega)) only [↓bcase_true, ↓bcase_false, WA, simprocAttr, wrap_i64, dV, List.length_map]⟩
      · rw [if_neg e4] at key
        simp +contextual (maxSteps := 2000000) (disch := ((try unfold LIM at *); omega)) only [↓bcase_true, ↓bcase_false, WA, simprocAttr, wrap_i64, e4, hd, key]
    · simp +contextual (maxSteps := 2000000) (disch := ((try unfold LIM at *); omega)) only [↓bcase_true, ↓bcase_false, WA, simprocAttr, wrap_i64, dV, oV, List.length_map, d3]
      have e : i = ol.length := by omega
      subst e
      rw [List.drop_length, okS] at p2
      rw [hd, ← p2]
end Go.Proofs.Ytpcgnmoogjahbaa
/- part D19 -/
set_option linter.unusedVariables false
set_option linter.unusedSimpArgs false
set_option maxRecDepth 100000
namespace Go.Proofs.Ytpcgnmoogjahbaa
open Go Go.W Go.RowKit
theorem szF_pos {f : Fl} {left : Int} (h : 0 ≤ szF f left) : szF f left = left - f.1.size - f.2.size := by
  unfold szF at *; split
  · simp_all
  · split <;> simp_all
def sumOf {α : Type} (one : α → Nat) : List α → Nat
  | [] => 0
  | a :: r => one a + sumOf one r
theorem budget_pos {α : Type} {sz : α → Int → Int} (one : α → Nat) (h1 : ∀ f left, 0 ≤ sz f left → sz f left = left - one f) : ∀ (l : List α) (left : Int), 0 ≤ budget sz l left → budget sz l left = left - sumOf one l
  | [], left, h => by simp [budget, sumOf]
  | f :: r, left, h => by
    unfold budget at *
    split at h
    · omega
    · rename_i q
      rw [if_neg q, budget_pos one h1 r _ h, h1 f left (by omega), sumOf]; omega
theorem szS_pos {α : Type} {sz : α → Int → Int} (one : α → Nat) (h1 : ∀ f left, 0 ≤ sz f left → sz f left = left - one f) (l : List α) (left : Int) (h : 0 ≤ szS sz l left) : szS sz l left = left - l.length - sumOf one l := by
  unfold szS at *
  split at h
  · omega
  · rename_i q
    rw [if_neg q, budget_pos one h1 l _ h]
theorem sum_mem {α : Type} (one : α → Nat) : ∀ {l : List α} {a : α}, a ∈ l → one a ≤ sumOf one l
  | b :: r, a, h => by
    rcases List.mem_cons.1 h with rfl | h
    · simp only [sumOf]; omega
    · have := sum_mem one h; simp only [sumOf]; omega
def oneF (f : Fl) : Nat := f.1.size + f.2.size
theorem sizeF_sum : ∀ l : List Fl, sizeF l = sumOf oneF l
  | [] => rfl
  | f :: r => by rw [sizeF, sumOf, sizeF_sum r, oneF]
structure Sized (fl : List Fl) (ol : List Opn) (m : Nat) : Prop where
  f : fl.length ≤ m
  o : ol.length ≤ m
  b : sizeF fl ≤ m
  s : ∀ o ∈ ol, oneO o ≤ m
theorem szD_pos {fl : List Fl} {ol : List Opn} {left : Int} (h : 0 ≤ szD fl ol left) : szD fl ol left = left - fl.length - sizeF fl - ol.length - sumOf oneO ol := by
  have hF : ∀ (f : Fl) left, 0 ≤ szF f left → szF f left = left - oneF f := fun f left h => by rw [szF_pos h]; unfold oneF; omega
  have hO : ∀ (f : Opn) left, 0 ≤ szO f left → szO f left = left - oneO f := fun f left h => by
    have : szO f left = szF f.2 left := rfl
    rw [this] at h ⊢
    rw [szF_pos h]; unfold oneO; omega
  unfold szD at *
  split at h
  · omega
  · rename_i q1
    split at h
    · omega
    · rename_i q2
      rw [if_neg q1, if_neg q2, szS_pos oneO hO ol _ (by omega), szS_pos oneF hF fl left (by omega), sizeF_sum]
theorem sized_of {fl : List Fl} {ol : List Opn} {left : Int} (h : 0 ≤ szD fl ol left) (hl : left ≤ 1048576) : Sized fl ol 1048576 := by
  have e := szD_pos h
  refine ⟨by omega, by omega, by omega, fun o ho => ?_⟩
  have := sum_mem oneO ho
  omega
theorem walk6 (fl : List Fl) (ol : List Opn) (cap : Int) : PureV C 6 [.agg (dV fl ol cap)] (.s (.bool true)) := by
  refine pure_of_run Try.func6 rfl (by kernel_rfl) (by kernel_rfl) (by simp) (fun _ => rfl) (fun _ => rfl) 6 1000 ?_
  simp +contextual (maxSteps := 2000000) (disch := ((try unfold LIM at *); omega)) only [↓bcase_true, ↓bcase_false, WA, simprocAttr, wrap_i64, dV]
  refine CallThen.pure (walk30 fl ol cap 1048576 (by omega) (by omega)) 1000 ?_
  by_cases c : szD fl ol 1048576 < 0
  · simp +contextual (maxSteps := 2000000) (disch := ((try unfold LIM at *); omega)) only [↓bcase_true, ↓bcase_false, WA, simprocAttr, wrap_i64, c]
  have S := sized_of (fl := fl) (ol := ol) (left := 1048576) (by omega) (by omega)
  simp +contextual (maxSteps := 2000000) (disch := ((try unfold LIM at *); omega)) only [↓bcase_true, ↓bcase_false, WA, simprocAttr, wrap_i64, c]
  refine CallThen.pure (walk32 fl ol cap S.f S.o) 1000 ?_
  simp +contextual (maxSteps := 2000000) (disch := ((try unfold LIM at *); omega)) only [↓bcase_true, ↓bcase_false, WA, simprocAttr, wrap_i64]
  refine CallThen.pure (walk31 fl ol cap S.f S.o S.b S.s) 1000 ?_
  simp +contextual (maxSteps := 2000000) (disch := ((try unfold LIM at *); omega)) only [↓bcase_true, ↓bcase_false, WA, simprocAttr, wrap_i64]
  refine CallThen.pure (walk32 fl ol cap S.f S.o) 1000 ?_
  simp +contextual (maxSteps := 2000000) (disch := ((try unfold LIM at *); omega)) only [↓bcase_true, ↓bcase_false, WA, simprocAttr, wrap_i64, dV]
  refine CallThen.pure (walk33 fl ol cap S.f S.o S.b S.s) 1000 ?_
  simp +contextual (maxSteps := 2000000) (disch := ((try unfold LIM at *); omega)) only [↓bcase_true, ↓bcase_false, WA, simprocAttr, wrap_i64, dV, bne_self_eq_false]
  refine DrawThen.of 1000 [] (.old 0 (.old 1 (.go 2 (.go 3 (.new 4 .done))))) (panFree_pure _ _ _) (by kernel_rfl) (by kernel_rfl) (by kernel_rfl) ?_
  simp +contextual (maxSteps := 2000000) (disch := ((try unfold LIM at *); omega)) only [↓bcase_true, ↓bcase_false, WA, simprocAttr, wrap_i64]
  refine DCall.pure (walk32 fl ol cap S.f S.o) 1000 (.go 3 (.new 4 .done)) (by kernel_rfl) ?_
  simp +contextual (maxSteps := 2000000) (disch := ((try unfold LIM at *); omega)) only [↓bcase_true, ↓bcase_false, WA, simprocAttr, wrap_i64, dV]
  refine DCall.pure (walk34 fl ol cap fl ol cap) 1000 (.new 4 .done) (by kernel_rfl) ?_
  simp +contextual (maxSteps := 2000000) (disch := ((try unfold LIM at *); omega)) only [↓bcase_true, ↓bcase_false, WA, simprocAttr, wrap_i64, and_self]
end Go.Proofs.Ytpcgnmoogjahbaa
/- part W33 -/
set_option linter.unusedVariables false
set_option linter.unusedSimpArgs false
namespace Go.W
open Go Go.RowKit

/-! ### A function that only reads and answers a new slice of plain values may be handed what is one's own -/
def plain : V → Bool
  | .s _ => true
  | _ => false
def plains (els : List (List V)) : Bool := els.all fun el => el.all plain
theorem ls_plain {φ φ' : Phi} {w w' : World} : ∀ {el : List V} {vs : List Value} {fp : Fp}, el.all plain = true → Ls (Dc φ w) el vs fp → Ls (Dc φ' w') el vs []
  | [], vs, fp, _, h => by simp only [Ls]
  | x :: xs, vs, fp, hp, h => by
    simp only [Ls] at *
    obtain ⟨v, r, f1, f2, e1, e2, h1, h2⟩ := h
    simp only [List.all_cons, Bool.and_eq_true] at hp
    refine ⟨v, r, [], [], e1, rfl, ?_, ls_plain hp.2 h2⟩
    cases x with
    | s a =>
      refine .inl ⟨?_, rfl⟩
      rcases h1 with ⟨q, _⟩ | q
      · simp only [RelC, RelP, RZ] at q ⊢; exact q
      · simp only [T, RZ] at q; exact q.1
    | _ => simp [plain] at hp
theorem lss_plain {φ φ' : Phi} {w w' : World} {n : Nat} : ∀ {els : List (List V)} {vs : List Value} {fp : Fp}, plains els = true → Lss (Dc φ w) n els vs fp → Lss (Dc φ' w') n els vs []
  | [], vs, fp, _, h => by simp only [Lss]
  | el :: els, vs, fp, hp, h => by
    simp only [Lss] at *
    obtain ⟨h0, f1, f2, e, h1, h2⟩ := h
    simp only [plains, List.all_cons, Bool.and_eq_true] at hp
    exact ⟨h0, [], [], rfl, ls_plain hp.1 h1, lss_plain (by simpa [plains] using hp.2) h2⟩
section
variable {C : Cx}
theorem NewV.borrow {f n : Nat} {args args' : List V} {post : List (List V)} (p : NewV C f args n post) (hr : plains post = true) (d : Nat) (H : H) (ha : args = args'.map (Go.W.frz 0 d H)) :
    CallsV C f args' H fun res h' => ∃ cap, post.length ≤ cap ∧ res = .ret (.sl H.length 0 post.length cap) ∧ h' = H ++ [⟨post, n, cap, true⟩] := by
  intro S w0 φ vs w G R hargs
  obtain ⟨φ', R', E', _, m'⟩ := Arr.frz (n0 := 0) d S w0 φ w R (Nat.zero_le _)
  have R0 : Rel (fun _ => False) w ⟨fun _ => none, φ'.z⟩ [] w := by
    obtain ⟨F', R'⟩ := R'
    exact ⟨fun _ => [], Kept.refl _ _, fun _ _ => rfl, R'.zok, fun _ _ _ h => by simp at h, fun _ _ h => by simp at h, fun _ => List.nodup_nil, fun _ _ _ h => by simp at h, fun _ _ => rfl, fun b B h => by simp at h⟩
  have hargs' : All2 (RelV ⟨fun _ => none, φ'.z⟩) args vs.toList := by
    subst ha
    refine all2_map.2 (hargs.mono fun x v rv => ?_)
    have := m' x (Go.W.frz 0 d H x) v (.inr rfl) rv
    have hc := (frz_closed (fun b => H.length + b) 0 H d x).2.2.2
    rw [← hc] at this
    have hrn : Rn (fun b => H.length + b) φ' ⟨fun _ => none, φ'.z⟩ := ⟨fun b q e => by
      obtain ⟨F', R'⟩ := R'
      have hd := R'.dom (H.length + b) (by simp [killFrom])
      rw [hd] at e; exact absurd e (by simp), FLe.refl _⟩
    exact hrn.v this
  refine (p (fun _ => False) w ⟨fun _ => none, φ'.z⟩ vs w (G.mono E'.z) R0 hargs').mono fun e w1 ⟨res, φ1, h1, q1, q2, q3, q4, cap, q5, q6, q7⟩ => ?_
  subst q6; subst q7
  obtain ⟨v, rfl, rv⟩ := q1
  obtain ⟨F1, R1⟩ := q2
  obtain ⟨F, R⟩ := R
  have gr : w.grownBy w1 none := ⟨R1.kept.os, R1.kept.tape, R1.kept.output, R1.kept.size, fun k hk _ => R1.kept.block k hk id⟩
  obtain ⟨p1, n1, k1, k3⟩ := sl_rel rv
  have kle := sl_le rv
  obtain ⟨p2, g1, g2, g3, g4⟩ := R1.place (b := 0) (B := ⟨post, n, cap, true⟩) rfl rfl
  simp only at g1 g2 g3
  rw [k1] at g1; obtain ⟨rfl, rfl⟩ := Prod.mk.inj (Option.some.inj g1)
  cases p1 with
  | none =>
    obtain ⟨e1, e2, e3⟩ := g4
    simp only at e1 e2
    subst e1; subst e2
    refine ⟨.ret (.sl H.length 0 0 0), phiPush φ H.length (none, n1), H ++ [⟨[], n1, 0, true⟩], ⟨v, rfl, none, n1, phiPush_new, Nat.le_refl _, ?_⟩, (R.grow gr).allocNil n1, phiPush_extN (Nat.le_refl _), by simp, 0, Nat.le_refl _, rfl, rfl⟩
    exact k3
  | some k =>
    obtain ⟨c, ty, fq, r1, r2, r3, r4, r5⟩ := g4
    simp only at r2 r3 r4
    have hk : w.heap.size ≤ k := by
      rcases (R1.mine 0 k (by rw [r5]; simp)).1 with q | q
      · exact q.elim
      · exact q
    exact ⟨.ret (.sl H.length 0 post.length cap), phiPush φ H.length (some k, n1), H ++ [⟨post, n1, cap, true⟩], ⟨v, rfl, some k, n1, phiPush_new, kle, k3⟩, R.alloc gr hk r1 r2 r3 g3 g2 (lss_plain hr r4), phiPush_extN (Nat.le_refl _), by simp, cap, q5, rfl, rfl⟩
variable {N n0 m : Nat} {Q : QT} {k : List It} {τ : Tau} {h : H}
theorem CallThen.newB {f n : Nat} {args args' : List V} {post : List (List V)} {d : Option Nat} (p : NewV C f args n post) (hr : plains post = true) (dd : Nat) (ha : args = args'.map (Go.W.frz 0 dd h)) (m : Nat)
    (hrun : ∀ cap, post.length ≤ cap → Run C N n0 m Q k (upo d (.sl h.length 0 post.length cap) τ) (h ++ [⟨post, n, cap, true⟩])) : CallThen C N n0 Q f args' d k τ h :=
  CallThen.of m (p.borrow hr dd h ha) fun res h' ⟨cap', e1, e2, e3⟩ => by subst e2; subst e3; exact hrun cap' e1
theorem DCall.newB {h0 : H} {exc : List Nat} {ops : Array Oper} {fuel : Nat} {listed : Array Bool} {f n : Nat} {args args' : List V} {post : List (List V)} {d : Option Nat} {nw : List Nat} (p : NewV C f args n post) (hr : plains post = true) (dd : Nat) (ha : args = args'.map (Go.W.frz 0 dd (hide h0 exc h))) (m : Nat) (td : TD) (hd : drawOk ops [] listed td = true)
    (hrun : ∀ cap, post.length ≤ cap → RunD C N n0 m Q k h0 exc ops fuel listed td (addN d nw) (upo d (.sl (hide h0 exc h).length 0 post.length cap) τ) (show_ h0 exc h ((hide h0 exc h) ++ [⟨post, n, cap, true⟩]))) : DCall C N n0 Q h0 exc ops fuel listed k f args' d nw τ h :=
  DCall.of m td hd (p.borrow hr dd _ ha) fun res h' ⟨cap', e1, e2, e3⟩ => by subst e2; subst e3; exact hrun cap' e1
theorem plains_map {α : Type} {f : α → List V} (hf : ∀ a, (f a).all plain = true) (l : List α) : plains (l.map f) = true := by
  simp only [plains, List.all_map, List.all_eq_true]; exact fun a _ => hf a
/-! ### An answer may be told with less -/
def WkC (r r' : V) : Prop := ∀ φ v, RelC φ r v → RelC φ r' v
def WkQ (r r' : V) : Prop := ∀ φ v, RelQ φ r v → RelQ φ r' v
def WkV (r r' : V) : Prop := ∀ φ v, RelV φ r v → RelV φ r' v
theorem wkC_refl (r : V) : WkC r r := fun _ _ h => h
theorem wkQ_refl (r : V) : WkQ r r := fun _ _ h => h
theorem wkC_z (n : Nat) : WkC .z (.f n []) := fun φ v h => by
  simp only [RelC, RelP, RZ] at h ⊢
  exact .inl ⟨trivial, h⟩
theorem wkQ_z (n : Nat) : WkQ .z (.f n []) := fun φ v h => wkC_z n φ v h
theorem wkV_z (n : Nat) : WkV .z (.f n []) := fun φ v h => wkC_z n φ v h
theorem all2_wk {R R' : V → Value → Prop} : ∀ {xs xs' : List V} {ys : List Value}, All2 (fun x x' => ∀ y, R x y → R' x' y) xs xs' → All2 R xs ys → All2 R' xs' ys
  | [], [], [], _, _ => trivial
  | x :: xs, x' :: xs', y :: ys, h, a => ⟨h.1 y a.1, all2_wk h.2 a.2⟩
  | [], _ :: _, _, h, _ => h.elim
  | _ :: _, [], _, h, _ => h.elim
  | [], [], _ :: _, _, a => a.elim
  | _ :: _, _ :: _, [], _, a => a.elim
theorem all2_sub {α β : Type} {R R' : α → β → Prop} : ∀ {xs : List α} {ys : List β}, (∀ x y, R x y → R' x y) → All2 R xs ys → All2 R' xs ys
  | [], [], _, _ => trivial
  | x :: xs, y :: ys, h, a => ⟨h _ _ a.1, all2_sub h a.2⟩
  | [], _ :: _, _, a => a.elim
  | _ :: _, [], _, a => a.elim
theorem wkQ_agg {xs ys : List V} (h : All2 WkC xs ys) : WkQ (.agg xs) (.agg ys) := fun φ v ⟨l, e, a⟩ => ⟨l, e, all2_wk (all2_sub (fun x y q => q φ) h) a⟩
theorem wkV_agg {xs ys : List V} (h : All2 WkC xs ys) : WkV (.agg xs) (.agg ys) := fun φ v r => wkQ_agg h φ v r
theorem wkV_tup {xs ys : List V} (h : All2 WkQ xs ys) : WkV (.tup xs) (.tup ys) := fun φ v ⟨l, e, a⟩ => ⟨l, e, all2_wk (all2_sub (fun x y q => q φ) h) a⟩
theorem PureV.weak {f : Nat} {args : List V} {r r' : V} (p : PureV C f args r) (h : WkV r r') (hc : ∀ ρ, rnV ρ r' = r') : PureV C f args r' :=
  ⟨hc, p.ca, fun S w0 φ vs w r0 r1 r2 => (p.calls S w0 φ vs w r0 r1 r2).mono fun e w' ⟨r1, φ', h', p1, p2, p3, p4, p5, p6⟩ => by
    subst p5
    obtain ⟨v, rfl, rv⟩ := p1
    exact ⟨.ret r', φ', h', ⟨v, rfl, h _ _ rv⟩, p2, p3, p4, rfl, p6⟩⟩
end
end Go.W
/- part D20 -/
set_option linter.unusedVariables false
set_option linter.unusedSimpArgs false
set_option maxRecDepth 100000
namespace Go.Proofs.Ytpcgnmoogjahbaa
open Go Go.W Go.RowKit
def seeS (fl : List Fl) (ol : List Opn) (i : Nat) : List Fl := (ol.take i).foldl doS fl
theorem see_zero (fl : List Fl) (ol : List Opn) : seeS fl ol 0 = fl := rfl
theorem see_succ {fl : List Fl} {ol : List Opn} {i : Nat} {o : Opn} (h : ol[i]? = some o) : seeS fl ol (i + 1) = doS (seeS fl ol i) o := by
  unfold seeS; rw [List.take_add_one, h, List.foldl_append]; rfl
theorem see_all {fl : List Fl} {ol : List Opn} {i : Nat} (h : ol.length ≤ i) : seeS fl ol i = seeS fl ol ol.length := by
  unfold seeS; rw [List.take_of_length_le h, List.take_length]
structure Good (fl : List Fl) (ol : List Opn) (cap : Int) : Prop where
  cap0 : 0 ≤ cap
  cap1 : cap ≤ 1000000
  late : ol.length ≤ 2000
  kinds : ∀ o ∈ ol, 1 ≤ o.1 ∧ o.1 ≤ 4
  fit : ∀ i, fits (seeS fl ol i) cap
  asc : ∀ i, ascS (seeS fl ol i) = true
theorem okS_good : ∀ {ol : List Opn} {fl : List Fl} {cap : Int}, okS fl ol cap = true → fits fl cap → ascS fl = true →
    (∀ o ∈ ol, 1 ≤ o.1 ∧ o.1 ≤ 4) ∧ (∀ i, fits (seeS fl ol i) cap) ∧ (∀ i, ascS (seeS fl ol i) = true)
  | [], fl, cap, _, h1, h2 => ⟨by simp, fun i => by simp only [seeS, List.take_nil, List.foldl_nil]; exact h1, fun i => by simp only [seeS, List.take_nil, List.foldl_nil]; exact h2⟩
  | o :: r, fl, cap, h, h1, h2 => by
    rw [okS] at h
    split at h
    · cases h
    · rename_i q
      split at h
      · rename_i q2
        obtain ⟨a, b, c⟩ := okS_good h q2 (asc_do h2 o)
        refine ⟨fun x hx => ?_, fun i => ?_, fun i => ?_⟩
        · rcases List.mem_cons.1 hx with rfl | hx
          · omega
          · exact a x hx
        · cases i with
          | zero => exact h1
          | succ i => exact b i
        · cases i with
          | zero => exact h2
          | succ i => exact c i
      · cases h
theorem good_of {fl : List Fl} {ol : List Opn} {cap : Int} (h : diskOk fl ol cap = true) : Good fl ol cap := by
  unfold diskOk at h
  split at h
  · cases h
  · rename_i q
    split at h
    · cases h
    · rename_i q2
      have h1 : fits fl cap := Classical.byContradiction fun e => q (.inr (.inr (.inr e)))
      have h2 : ascS fl = true := by simpa using q2
      obtain ⟨a, b, c⟩ := okS_good h h1 h2
      exact ⟨by omega, by omega, by omega, a, b, c⟩
theorem Good.size {fl : List Fl} {ol : List Opn} {cap : Int} (g : Good fl ol cap) (i : Nat) : (seeS fl ol i).length ≤ 20 ∧ sizeF (seeS fl ol i) ≤ 1000000 := by
  have h1 : (seeS fl ol i).length ≤ 20 := (g.fit i).1
  have h2 : (sizeF (seeS fl ol i) : Int) ≤ cap := (g.fit i).2
  have := g.cap1
  exact ⟨h1, by omega⟩
theorem Good.fl {fl : List Fl} {ol : List Opn} {cap : Int} (g : Good fl ol cap) : fl.length ≤ 20 := (g.size 0).1
theorem Good.step {fl : List Fl} {ol : List Opn} {cap : Int} (g : Good fl ol cap) (hs : ∀ o ∈ ol, oneO o ≤ 1048576) {i : Nat} {o : Opn} (h : ol[i]? = some o) : (getS (seeS fl ol i) o.2.1).1.size + o.2.2.size ≤ 9223372036854775807 := by
  have h1 := sizeF_get (seeS fl ol i) o.2.1
  have h2 := (g.size i).2
  have h3 := hs o (List.mem_of_getElem? h)
  unfold oneO at h3; omega
theorem walk100 (fl : List Fl) (ol : List Opn) (cap n : Int) (g : Good fl ol cap) (hs : ∀ o ∈ ol, oneO o ≤ 1048576) : PureV C 100 [.f 2 (fl.map fV), .f 3 (ol.map oV), .s (.int .i64 n)] (.f 2 ((seeS fl ol n.toNat).map fV)) := by
  refine pure_of_run Try.func100 rfl (by kernel_rfl) (by kernel_rfl) (by simp) (fun _ => rfl) (fun _ => rfl) 6 1000 ?_
  have hf := g.fl
  have hol := g.late
  have q1 : fl.length * 32 ≤ 140737488355328 ∧ fl.length ≤ LIM := by unfold LIM; omega
  simp +contextual (maxSteps := 2000000) (disch := ((try unfold LIM at *); omega)) only [↓bcase_true, ↓bcase_false, WA, simprocAttr, wrap_i64, List.length_map, leafs_map fV_ok, q1, takeTo]
  intro cap' hc _
  refine LoopThen.pure (ι := Nat) (fun i => i ≤ n.toNat ∧ i ≤ ol.length) (fun i => keepL [(0, .f 2 ((seeS fl ol i).map fV)), (1, .f 3 (ol.map oV)), (2, .s (.int .i64 n)), (7, .s (.int .i64 i))]) (fun i => ol.length - i) 6 [0, 1, 2, 7] 1000 1000
    ⟨0, ⟨Nat.zero_le _, Nat.zero_le _⟩, by simp +contextual (maxSteps := 2000000) (disch := ((try unfold LIM at *); omega)) only [↓bcase_true, ↓bcase_false, WA, simprocAttr, wrap_i64, see_zero, fV_frz, Nat.not_lt_zero, List.length_map, List.take_length]⟩ ?_
  rintro i ⟨p1, p2⟩
  by_cases d1 : (i : Int) < n
  rotate_left
  · have e : seeS fl ol i = seeS fl ol n.toNat := by rw [show i = n.toNat by omega]
    simp +contextual (maxSteps := 2000000) (disch := ((try unfold LIM at *); omega)) only [↓bcase_true, ↓bcase_false, WA, simprocAttr, wrap_i64, d1, e]
  by_cases d2 : (i : Int) < ol.length
  · obtain ⟨o, ho⟩ := get_lt d2
    have pi : (0 : Int) ≤ i := by omega
    simp +contextual (maxSteps := 2000000) (disch := ((try unfold LIM at *); omega)) only [↓bcase_true, ↓bcase_false, WA, simprocAttr, wrap_i64, List.length_map, d1, d2, ho, pi, oV]
    intro _
    have hz := (g.size i).1
    refine CallThen.pure (walk71 (seeS fl ol i) o (by omega) (g.step hs ho)) 1000 ?_
    simp +contextual (maxSteps := 2000000) (disch := ((try unfold LIM at *); omega)) only [↓bcase_true, ↓bcase_false, WA, simprocAttr, wrap_i64, ← see_succ ho, cast_succ]
    exact ⟨i + 1, ⟨⟨by omega, by omega⟩, by omega⟩, rfl⟩
  · have e : seeS fl ol i = seeS fl ol n.toNat := by rw [see_all (i := i) (by omega), see_all (i := n.toNat) (by omega)]
    simp +contextual (maxSteps := 2000000) (disch := ((try unfold LIM at *); omega)) only [↓bcase_true, ↓bcase_false, WA, simprocAttr, wrap_i64, List.length_map, d1, d2, e]
theorem walk86 (fl : List Fl) (ol : List Opn) (cap : Int) (g : Good fl ol cap) (hs : ∀ o ∈ ol, oneO o ≤ 1048576) : PureV C 86 [.agg (dV fl ol cap)] (.f 2 ((seeS fl ol ol.length).map fV)) := by
  refine pure_of_run Try.func86 rfl (by kernel_rfl) (by kernel_rfl) (by simp) (fun _ => rfl) (fun _ => rfl) 6 1000 ?_
  have hol := g.late
  have e : ((ol.length : Nat) : Int).toNat = ol.length := Int.toNat_natCast _
  simp +contextual (maxSteps := 2000000) (disch := ((try unfold LIM at *); omega)) only [↓bcase_true, ↓bcase_false, WA, simprocAttr, wrap_i64, dV, List.length_map]
  intro _
  have w := walk100 fl ol cap ol.length g hs
  rw [e] at w
  refine CallThen.pure w 1000 ?_
  simp +contextual (maxSteps := 2000000) (disch := ((try unfold LIM at *); omega)) only [↓bcase_true, ↓bcase_false, WA, simprocAttr, wrap_i64]
def seeD (fl : List Fl) (ol : List Opn) (cap : Int) : List Fl := if diskOk fl ol cap = true then seeS fl ol ol.length else []
theorem walk46 (fl : List Fl) (ol : List Opn) (cap : Int) (S : Sized fl ol 1048576) : PureV C 46 [.agg (dV fl ol cap)] (.f 2 ((seeD fl ol cap).map fV)) := by
  cases c : diskOk fl ol cap with
  | true =>
    refine pure_of_run Try.func46 rfl (by kernel_rfl) (by kernel_rfl) (by simp) (fun _ => rfl) (fun _ => rfl) 6 1000 ?_
    simp +contextual (maxSteps := 2000000) (disch := ((try unfold LIM at *); omega)) only [↓bcase_true, ↓bcase_false, WA, simprocAttr, wrap_i64, dV]
    refine CallThen.pure (walk31 fl ol cap S.f S.o S.b S.s) 1000 ?_
    simp +contextual (maxSteps := 2000000) (disch := ((try unfold LIM at *); omega)) only [↓bcase_true, ↓bcase_false, WA, simprocAttr, wrap_i64, dV, c]
    refine CallThen.pure (walk86 fl ol cap (good_of c) S.s) 1000 ?_
    simp +contextual (maxSteps := 2000000) (disch := ((try unfold LIM at *); omega)) only [↓bcase_true, ↓bcase_false, WA, simprocAttr, wrap_i64, seeD, c]
  | false =>
    have e : seeD fl ol cap = [] := by simp [seeD, c]
    rw [e]
    refine PureV.weak (r := .z) ?_ (wkV_z 2) (fun _ => rfl)
    refine pure_of_run Try.func46 rfl (by kernel_rfl) (by kernel_rfl) (by simp) (fun _ => rfl) (fun _ => rfl) 6 1000 ?_
    simp +contextual (maxSteps := 2000000) (disch := ((try unfold LIM at *); omega)) only [↓bcase_true, ↓bcase_false, WA, simprocAttr, wrap_i64, dV]
    refine CallThen.pure (walk31 fl ol cap S.f S.o S.b S.s) 1000 ?_
    simp +contextual (maxSteps := 2000000) (disch := ((try unfold LIM at *); omega)) only [↓bcase_true, ↓bcase_false, WA, simprocAttr, wrap_i64, dV, c]
theorem walk49 (fl : List Fl) (ol : List Opn) (cap : Int) (n : ByteArray) (S : Sized fl ol 1048576) : PureV C 49 [.agg (dV fl ol cap), .s (.string n)] (.tup [.s (.string (getS (seeD fl ol cap) n).1), .s (.bool (getS (seeD fl ol cap) n).2)]) := by
  refine pure_of_run Try.func49 rfl (by kernel_rfl) (by kernel_rfl) (by simp) (fun _ => rfl) (fun _ => rfl) 6 1000 ?_
  simp +contextual (maxSteps := 2000000) (disch := ((try unfold LIM at *); omega)) only [↓bcase_true, ↓bcase_false, WA, simprocAttr, wrap_i64, dV]
  refine CallThen.pure (walk46 fl ol cap S) 1000 ?_
  simp +contextual (maxSteps := 2000000) (disch := ((try unfold LIM at *); omega)) only [↓bcase_true, ↓bcase_false, WA, simprocAttr, wrap_i64, dV]
  refine CallThen.pure (walk97 _ n) 1000 ?_
  simp +contextual (maxSteps := 2000000) (disch := ((try unfold LIM at *); omega)) only [↓bcase_true, ↓bcase_false, WA, simprocAttr, wrap_i64, dV]
end Go.Proofs.Ytpcgnmoogjahbaa
/- part D21 -/
set_option linter.unusedVariables false
set_option linter.unusedSimpArgs false
set_option maxRecDepth 100000
namespace Go.Proofs.Ytpcgnmoogjahbaa
open Go Go.W Go.RowKit
theorem fV_plain (f : Fl) : (fV f).all plain = true := rfl
theorem oV_plain (f : Opn) : (oV f).all plain = true := rfl
theorem walk118 (fl : List Fl) (ol : List Opn) (cap : Int) (i : Nat) (hi : i ≤ ol.length) (g : Good fl ol cap) (hs : ∀ o ∈ ol, oneO o ≤ 1048576) : NewV C 118 [.agg (dV fl ol cap), .s (.int .i64 i)] 2 ((seeS fl ol i).map fV) := by
  refine calls_of_run Try.func118 rfl (by kernel_rfl) (by kernel_rfl) (by simp) 1000 ?_
  have hf := g.fl
  have hol := g.late
  have pi : (0 : Int) ≤ i ∧ (i : Int) ≤ ol.length := by omega
  simp +contextual (maxSteps := 2000000) (disch := ((try unfold LIM at *); omega)) only [↓bcase_true, ↓bcase_false, WA, simprocAttr, wrap_i64, dV]
  refine CallThen.new (walk76 fl (by omega)) (nrs_map fV_nr _) (fun _ => rfl) 1000 fun cap0 hc0 => ?_
  rw [List.length_map] at hc0
  have tk : (ol.map oV).take i = (ol.take i).map oV := (List.map_take ..).symm
  have tl : (ol.take i).length = i := by rw [List.length_take]; omega
  simp +contextual (maxSteps := 2000000) (disch := ((try unfold LIM at *); omega)) only [↓bcase_true, ↓bcase_false, WA, simprocAttr, wrap_i64, dV, List.length_map, pi, Nat.sub_zero, tk, tl]
  intro _
  refine LoopThen.own (ι := Nat × Nat) (fun p => p.1 ≤ i ∧ (seeS fl ol p.1).length ≤ p.2)
    (fun p => [(5, .sl 0 0 (seeS fl ol p.1).length p.2), (14, .f 3 ((ol.take i).map oV)), (15, .s (.int .i64 i)), (16, .s (.int .i64 p.1))])
    (fun p => [⟨(seeS fl ol p.1).map fV, 2, p.2, true⟩]) (fun p => i - p.1) 1000 1000
    ⟨(0, cap0), ⟨Nat.zero_le _, hc0⟩, [1], by simp, by simp +contextual (maxSteps := 2000000) (disch := ((try unfold LIM at *); omega)) only [↓bcase_true, ↓bcase_false, WA, simprocAttr, wrap_i64, true_or, nrs_map fV_nr, see_zero], by simp +contextual (maxSteps := 2000000) (disch := ((try unfold LIM at *); omega)) only [↓bcase_true, ↓bcase_false, WA, simprocAttr, wrap_i64, see_zero, List.length_map]⟩ ?_
  rintro ⟨j, cp⟩ ⟨p1, pc⟩
  simp only at p1 pc
  by_cases d3 : (j : Int) < i
  · obtain ⟨o, hoo⟩ := get_lt (show (j : Int) < ol.length by omega)
    have hot : (ol.take i)[j]? = some o := by rw [List.getElem?_take_of_lt (by omega)]; exact hoo
    have pj : (0 : Int) ≤ j := by omega
    simp +contextual (maxSteps := 2000000) (disch := ((try unfold LIM at *); omega)) only [↓bcase_true, ↓bcase_false, WA, simprocAttr, wrap_i64, oV, List.length_map, d3, hot, pj, tl]
    have pa := g.asc j
    have sz := g.size j
    have b2 := sizeF_get (seeS fl ol j) o.2.1
    have b3 := hs o (List.mem_of_getElem? hoo)
    simp only [oneO] at b3
    have b4 := get_cut (seeS fl ol j) o.2.1 pa
    rw [b4] at b2
    have e1 := g.kinds o (List.mem_of_getElem? hoo)
    have ad := apply_do (seeS fl ol j) o pa e1.1 e1.2
    have wa : ascS (withoutS (seeS fl ol j) o.2.1 (cutN (seeS fl ol j) o.2.1)) = true := by rw [without_drop _ _ pa]; exact asc_drop pa _
    have w78 := walk78 (seeS fl ol j) o _ _ (by omega) (cut_cutN pa o.2.1) (cut_cutN wa o.2.2) (by simp only at b2; omega)
    rw [ad, ← see_succ hoo] at w78
    rw [show (seeS fl ol j).length = ((seeS fl ol j).map fV).length by simp]
    refine CallThen.own w78 (by rfl) (by simpa using pc) 1000 fun cp' hc' => ?_
    rw [List.length_map] at hc'
    simp +contextual (maxSteps := 2000000) (disch := ((try unfold LIM at *); omega)) only [↓bcase_true, ↓bcase_false, WA, simprocAttr, wrap_i64, List.length_map, cast_succ]
    exact ⟨(j + 1, cp'), ⟨⟨by omega, hc'⟩, by simp only; omega⟩, [2], by simp, by simp +contextual (maxSteps := 2000000) (disch := ((try unfold LIM at *); omega)) only [↓bcase_true, ↓bcase_false, WA, simprocAttr, wrap_i64, true_or, nrs_map fV_nr], by simp +contextual (maxSteps := 2000000) (disch := ((try unfold LIM at *); omega)) only [↓bcase_true, ↓bcase_false, WA, simprocAttr, wrap_i64, List.length_map]⟩
  · have e : j = i := by omega
    subst e
    simp +contextual (maxSteps := 2000000) (disch := ((try unfold LIM at *); omega)) only [↓bcase_true, ↓bcase_false, WA, simprocAttr, wrap_i64, oV, List.length_map, d3]
    refine CallThen.newB (walk76 (seeS fl ol j) (by have := g.size j; omega)) (plains_map fV_plain _) 6 ?_ 1000 fun cp' hc' => ?_
    · simp +contextual (maxSteps := 2000000) (disch := ((try unfold LIM at *); omega)) only [↓bcase_true, ↓bcase_false, WA, simprocAttr, wrap_i64, List.length_map, fV_frz, Nat.not_lt_zero, own_els]
    rw [List.length_map] at hc'
    simp +contextual (maxSteps := 2000000) (disch := ((try unfold LIM at *); omega)) only [↓bcase_true, ↓bcase_false, WA, simprocAttr, wrap_i64, List.length_map]
    exact Up.fresh (b := 1) rfl (nrs_map fV_nr _) ⟨cp', hc', rfl, rfl⟩
theorem walk87 (fl : List Fl) (ol : List Opn) (cap : Int) (g : Good fl ol cap) (hs : ∀ o ∈ ol, oneO o ≤ 1048576) : NewV C 87 [.agg (dV fl ol cap)] 2 ((seeS fl ol ol.length).map fV) := by
  refine calls_of_run Try.func87 rfl (by kernel_rfl) (by kernel_rfl) (by simp) 1000 ?_
  have hol := g.late
  simp +contextual (maxSteps := 2000000) (disch := ((try unfold LIM at *); omega)) only [↓bcase_true, ↓bcase_false, WA, simprocAttr, wrap_i64, dV, List.length_map]
  intro _
  refine CallThen.new (walk118 fl ol cap ol.length (Nat.le_refl _) g hs) (nrs_map fV_nr _) (fun _ => rfl) 1000 fun cp hc => ?_
  rw [List.length_map] at hc
  simp +contextual (maxSteps := 2000000) (disch := ((try unfold LIM at *); omega)) only [↓bcase_true, ↓bcase_false, WA, simprocAttr, wrap_i64, List.length_map]
  exact Up.fresh (b := 1) rfl (nrs_map fV_nr _) ⟨cp, hc, rfl, rfl⟩
theorem walk88 (fl : List Fl) (ol : List Opn) (cap : Int) (n : ByteArray) (g : Good fl ol cap) (hs : ∀ o ∈ ol, oneO o ≤ 1048576) :
    PureV C 88 [.agg (dV fl ol cap), .s (.string n)] (.tup [.s (.string (getS (seeS fl ol ol.length) n).1), .s (.bool (getS (seeS fl ol ol.length) n).2)]) := by
  refine pure_of_run Try.func88 rfl (by kernel_rfl) (by kernel_rfl) (by simp) (fun _ => rfl) (fun _ => rfl) 6 1000 ?_
  simp +contextual (maxSteps := 2000000) (disch := ((try unfold LIM at *); omega)) only [↓bcase_true, ↓bcase_false, WA, simprocAttr, wrap_i64, dV]
  refine CallThen.new (walk87 fl ol cap g hs) (nrs_map fV_nr _) (fun _ => rfl) 1000 fun cp hc => ?_
  generalize hl : seeS fl ol ol.length = l at *
  have pa : ascS l = true := hl ▸ g.asc _
  have sz : l.length ≤ 20 ∧ sizeF l ≤ 1000000 := hl ▸ g.size _
  simp +contextual (maxSteps := 2000000) (disch := ((try unfold LIM at *); omega)) only [↓bcase_true, ↓bcase_false, WA, simprocAttr, wrap_i64, List.length_map]
  refine CallThen.borrow (walk109 l n (cutN l n) (by omega) (cut_cutN pa n)) (flat_two _ _) 6 ?_ 1000 ?_
  · simp +contextual (maxSteps := 2000000) (disch := ((try unfold LIM at *); omega)) only [↓bcase_true, ↓bcase_false, WA, simprocAttr, wrap_i64, List.length_map, fV_frz, Nat.not_lt_zero, own_els]
  have b4 := get_cut l n pa
  rw [b4]
  cases c : hereB l n (cutN l n) with
  | true =>
    have hlt := here_lt c
    obtain ⟨f, hf⟩ := get_lt (l := l) (i := cutN l n) (by omega)
    have p : (0 : Int) ≤ cutN l n ∧ (cutN l n : Int) < l.length := by omega
    have hd : dataK l n (cutN l n) = f.2 := by simp [dataK, c, hf]
    simp +contextual (maxSteps := 2000000) (disch := ((try unfold LIM at *); omega)) only [↓bcase_true, ↓bcase_false, WA, simprocAttr, wrap_i64, List.length_map, p, hf, hd, fV]
  | false =>
    have hd : dataK l n (cutN l n) = ⟨#[]⟩ := by simp [dataK, c]
    simp +contextual (maxSteps := 2000000) (disch := ((try unfold LIM at *); omega)) only [↓bcase_true, ↓bcase_false, WA, simprocAttr, wrap_i64, hd]
theorem walk40 (fl : List Fl) (ol : List Opn) (cap : Int) (n : ByteArray) (S : Sized fl ol 1048576) : PureV C 40 [.agg (dV fl ol cap), .s (.string n)] (.tup [.s (.string (getS (seeD fl ol cap) n).1), .s (.bool (getS (seeD fl ol cap) n).2)]) := by
  refine pure_of_run Try.func40 rfl (by kernel_rfl) (by kernel_rfl) (by simp) (fun _ => rfl) (fun _ => rfl) 6 1000 ?_
  simp +contextual (maxSteps := 2000000) (disch := ((try unfold LIM at *); omega)) only [↓bcase_true, ↓bcase_false, WA, simprocAttr, wrap_i64, dV]
  refine CallThen.pure (walk33 fl ol cap S.f S.o S.b S.s) 1000 ?_
  cases c : diskOk fl ol cap with
  | true =>
    simp +contextual (maxSteps := 2000000) (disch := ((try unfold LIM at *); omega)) only [↓bcase_true, ↓bcase_false, WA, simprocAttr, wrap_i64, dV]
    refine CallThen.pure (walk88 fl ol cap n (good_of c) S.s) 1000 ?_
    simp +contextual (maxSteps := 2000000) (disch := ((try unfold LIM at *); omega)) only [↓bcase_true, ↓bcase_false, WA, simprocAttr, wrap_i64, seeD, c]
  | false =>
    simp +contextual (maxSteps := 2000000) (disch := ((try unfold LIM at *); omega)) only [↓bcase_true, ↓bcase_false, WA, simprocAttr, wrap_i64, dV, seeD, c, getS]
theorem walk10 (fl : List Fl) (ol : List Opn) (cap : Int) (n : ByteArray) : PureV C 10 [.agg (dV fl ol cap), .s (.string n)] (.s (.bool true)) := by
  refine pure_of_run Try.func10 rfl (by kernel_rfl) (by kernel_rfl) (by simp) (fun _ => rfl) (fun _ => rfl) 6 1000 ?_
  by_cases hn : (1048576 : Int) < n.size
  · simp +contextual (maxSteps := 2000000) (disch := ((try unfold LIM at *); omega)) only [↓bcase_true, ↓bcase_false, WA, simprocAttr, wrap_i64, dV, hn]
  simp +contextual (maxSteps := 2000000) (disch := ((try unfold LIM at *); omega)) only [↓bcase_true, ↓bcase_false, WA, simprocAttr, wrap_i64, dV, hn]
  intro _
  refine CallThen.pure (walk30 fl ol cap 1048576 (by omega) (by omega)) 1000 ?_
  by_cases c : szD fl ol 1048576 < 0
  · simp +contextual (maxSteps := 2000000) (disch := ((try unfold LIM at *); omega)) only [↓bcase_true, ↓bcase_false, WA, simprocAttr, wrap_i64, c]
  have S := sized_of (fl := fl) (ol := ol) (left := 1048576) (by omega) (by omega)
  simp +contextual (maxSteps := 2000000) (disch := ((try unfold LIM at *); omega)) only [↓bcase_true, ↓bcase_false, WA, simprocAttr, wrap_i64, c]
  refine CallThen.pure (walk32 fl ol cap S.f S.o) 1000 ?_
  simp +contextual (maxSteps := 2000000) (disch := ((try unfold LIM at *); omega)) only [↓bcase_true, ↓bcase_false, WA, simprocAttr, wrap_i64]
  refine CallThen.pure (walk49 fl ol cap n S) 1000 ?_
  simp +contextual (maxSteps := 2000000) (disch := ((try unfold LIM at *); omega)) only [↓bcase_true, ↓bcase_false, WA, simprocAttr, wrap_i64]
  refine CallThen.pure (walk32 fl ol cap S.f S.o) 1000 ?_
  simp +contextual (maxSteps := 2000000) (disch := ((try unfold LIM at *); omega)) only [↓bcase_true, ↓bcase_false, WA, simprocAttr, wrap_i64, dV]
  refine CallThen.pure (walk40 fl ol cap n S) 1000 ?_
  simp +contextual (maxSteps := 2000000) (disch := ((try unfold LIM at *); omega)) only [↓bcase_true, ↓bcase_false, WA, simprocAttr, wrap_i64, dV, bne_self_eq_false]
  refine DrawThen.of 1000 [] (.old 0 (.old 1 (.go 2 (.go 3 (.new 4 .done))))) (panFree_pure _ _ _) (by kernel_rfl) (by kernel_rfl) (by kernel_rfl) ?_
  simp +contextual (maxSteps := 2000000) (disch := ((try unfold LIM at *); omega)) only [↓bcase_true, ↓bcase_false, WA, simprocAttr, wrap_i64]
  refine DCall.pure (walk32 fl ol cap S.f S.o) 1000 (.go 3 (.new 4 .done)) (by kernel_rfl) ?_
  simp +contextual (maxSteps := 2000000) (disch := ((try unfold LIM at *); omega)) only [↓bcase_true, ↓bcase_false, WA, simprocAttr, wrap_i64, dV]
  refine DCall.pure (walk34 fl ol cap fl ol cap) 1000 (.new 4 .done) (by kernel_rfl) ?_
  simp +contextual (maxSteps := 2000000) (disch := ((try unfold LIM at *); omega)) only [↓bcase_true, ↓bcase_false, WA, simprocAttr, wrap_i64, and_self]
end Go.Proofs.Ytpcgnmoogjahbaa
/- part W34 -/
set_option linter.unusedVariables false
set_option linter.unusedSimpArgs false
namespace Go.W
open Go Go.RowKit

/-! ### Loops of a function that is handed blocks of its caller's: the first n0 of them keep their names -/
theorem gcOk_ofN {n0 : Nat} {l : List Nat} {h h' : H} (hn : l.Nodup) (ht : l.take n0 = List.range n0) (hg : gcL (nm l h.length) h l h') : gcOk l h h' n0 := by
  obtain ⟨h1, h2⟩ := gcL_spec hg
  have hl : n0 ≤ l.length := by
    have := congrArg List.length ht
    simp at this; omega
  refine ⟨h1, hn, by omega, fun i hi => ?_, fun i B' e _ => ?_⟩
  · have := congrArg (fun x : List Nat => x[i]?) ht
    simp only [List.getElem?_take_of_lt hi] at this
    rw [this]; simp [hi]
  · obtain ⟨b, e1, e2⟩ := h2 i B' e
    exact ⟨_, by rw [show nm l h.length i = b by unfold nm; rw [e1]; rfl]; exact e2, rfl⟩
section
variable {C : Cx} {N m n0 : Nat} {Q : QT} {k : List It} {τ : Tau} {h : H}
theorem Goes.ownN {K : Tau → H → Prop} (l : List Nat) (T : List (Nat × V)) (h' : H) (hn : l.Nodup) (hr : l.take n0 = List.range n0) (hg : gcL (nm l h.length) h l h') (ht : keepT τ (nm l h.length) T) (hk : K (keepL T) h') : Goes n0 K τ h :=
  ⟨_, h', _, Arr.gc (gcOk_ofN hn hr hg), fun t => keepT_spec ht t, hk⟩
def loopN (C : Cx) (N n0 m : Nat) (Q : QT) (k : List It) (I : Tau → H → Prop) : QT
  | .normal, τ, h => I τ h
  | .exit id, τ, h => exitK (Run C N n0 m Q) Q id τ h (popTo id k)
  | .ret, τ, h => Q .ret τ h
  | .pan v, τ, h => Q (.pan v) τ h
theorem panFree_loopN {I : Tau → H → Prop} (hQ : PanFree Q) : PanFree (loopN C N n0 m Q k I) := fun v τ τ' h q => hQ v τ τ' h q
theorem loopN_normal (I : Tau → H → Prop) : loopN C N n0 m Q k I .normal τ h = I τ h := rfl
theorem loopN_exit (I : Tau → H → Prop) (id : Nat) : loopN C N n0 m Q k I (.exit id) τ h = exitK (Run C N n0 m Q) Q id τ h (popTo id k) := rfl
theorem loopN_ret (I : Tau → H → Prop) : loopN C N n0 m Q k I .ret τ h = Q .ret τ h := rfl
theorem loopN_pan (I : Tau → H → Prop) (v : V) : loopN C N n0 m Q k I (.pan v) τ h = Q (.pan v) τ h := rfl
/-- l: the blocks that are kept (all of them, in the order of Hp). -/
theorem LoopThen.ownN (n0 : Nat) {ι : Type} {body : Code} (P : ι → Prop) (T : ι → List (Nat × V)) (Hp : ι → H) (μ : ι → Nat) (m n : Nat)
    (h0 : ∃ i, P i ∧ ∃ l : List Nat, (l.Nodup ∧ l.take n0 = List.range n0) ∧ gcL (nm l h.length) h l (Hp i) ∧ keepT τ (nm l h.length) (T i))
    (hr : ∀ i, P i → Run C N n0 n (loopN C N n0 m Q k fun τ' h' => ∃ j, (P j ∧ μ j < μ i) ∧ ∃ l : List Nat, (l.Nodup ∧ l.take n0 = List.range n0) ∧ gcL (nm l h'.length) h' l (Hp j) ∧ keepT τ' (nm l h'.length) (T j)) [.code body] (keepL (T i)) (Hp i)) : LoopThen C N n0 Q body k τ h := by
  classical
  intro hb hk
  let I : Tau → H → Prop := fun τ h => ∃ i, P i ∧ τ = keepL (T i) ∧ h = Hp i
  have nat_min : ∀ (p : Nat → Prop) (n : Nat), p n → ∃ n, p n ∧ ∀ m, p m → n ≤ m := by
    intro p n hn
    induction n using Nat.strongRecOn with
    | _ n ih =>
      by_cases q : ∃ m, m < n ∧ p m
      · obtain ⟨m, h1, h2⟩ := q; exact ih m h1 h2
      · exact ⟨n, hn, fun m hm => Nat.le_of_not_lt fun h => q ⟨m, h, hm⟩⟩
  let R : Tau → H → Nat → Prop := fun τ h n => ∃ i, P i ∧ τ = keepL (T i) ∧ h = Hp i ∧ μ i = n
  let M : Tau → H → Nat := fun τ h => if q : ∃ n, R τ h n then Classical.choose (nat_min (R τ h) _ (Classical.choose_spec q)) else 0
  have hM : ∀ τ h, I τ h → ∃ i, P i ∧ τ = keepL (T i) ∧ h = Hp i ∧ μ i = M τ h ∧ ∀ j, P j → τ = keepL (T j) → h = Hp j → M τ h ≤ μ j := by
    intro τ h ⟨i, h1, h2, h3⟩
    have q : ∃ n, R τ h n := ⟨μ i, i, h1, h2, h3, rfl⟩
    have e : M τ h = Classical.choose (nat_min (R τ h) _ (Classical.choose_spec q)) := dif_pos q
    have sp := Classical.choose_spec (nat_min (R τ h) _ (Classical.choose_spec q))
    rw [← e] at sp
    obtain ⟨⟨j, j1, j2, j3, j4⟩, j5⟩ := sp
    exact ⟨j, j1, j2, j3, j4, fun i' q1 q2 q3 => j5 (μ i') ⟨i', q1, q2, q3, rfl⟩⟩
  refine WC.loop I M ?_ fun τ h hI => ?_
  · obtain ⟨i, h1, l, ⟨h2, h2'⟩, h3, h4⟩ := h0
    exact Goes.ownN l (T i) (Hp i) h2 h2' h3 h4 ⟨i, h1, rfl, rfl⟩
  · obtain ⟨i, p1, e1, e2, e3, _⟩ := hM τ h hI
    subst e1; subst e2
    have := Run_sound n _ [.code body] (keepL (T i)) (Hp i) (by simp [itOk, hb]) (hr i p1)
    refine WC.mono this fun x τ' h' q => ?_
    cases x with
    | normal =>
      obtain ⟨j, ⟨q1, q2⟩, l, ⟨q3, q3'⟩, q4, q5⟩ := q
      refine Goes.ownN l (T j) (Hp j) q3 q3' q4 q5 ⟨⟨j, q1, rfl, rfl⟩, ?_⟩
      obtain ⟨j', _, _, _, _, r4⟩ := hM (keepL (T j)) (Hp j) ⟨j, q1, rfl, rfl⟩
      have := r4 j q1 rfl rfl
      omega
    | exit id =>
      refine semK_exit ?_
      simp only [SemK, loopN] at q
      cases hp : popTo id k with
      | none => rw [hp] at q; exact q
      | some k' => rw [hp] at q; exact Run_sound m Q k' τ' h' (popTo_ok hp hk) q
    | ret => exact semK_ret q
    | pan v => exact semK_pan q
end
theorem mid_get {α : Type} {a b : List α} {y : α} {i : Nat} (h : a.length = i) : (a ++ y :: b)[i]? = some y := by
  subst h; simp
theorem mid_set {α : Type} {a b : List α} {x y : α} {i : Nat} (h : a.length = i) : (a ++ y :: b).set i x = a ++ x :: b := by
  subst h; simp
set_option linter.all false in
noncomputable def WB7 := And.intro (And.intro @loopN_normal @loopN_exit) (And.intro @loopN_ret @loopN_pan)
end Go.W
/- part D22 -/
set_option linter.unusedVariables false
set_option linter.unusedSimpArgs false
set_option maxRecDepth 100000
namespace Go.Proofs.Ytpcgnmoogjahbaa
open Go Go.W Go.RowKit
def digT (n : Nat) (acc : ByteArray) : ByteArray := if n = 0 then acc else digT (n / 10) (⟨#[UInt8.ofNat (48 + n % 10)]⟩ ++ acc)
termination_by n
decreasing_by omega
def markT (k : Int) : ByteArray := if k ≤ 0 then ⟨#[109, 48]⟩ else ⟨#[109]⟩ ++ digT k.toNat ⟨#[]⟩
theorem walk66 (k : Int) (hk : k ≤ 9223372036854775807) : PureV C 66 [.s (.int .i64 k)] (.s (.string (markT k))) := by
  refine pure_of_run Try.func66 rfl (by kernel_rfl) (by kernel_rfl) (by simp) (fun _ => rfl) (fun _ => rfl) 6 1000 ?_
  by_cases c : k ≤ 0
  · simp +contextual (maxSteps := 2000000) (disch := ((try unfold LIM at *); omega)) only [↓bcase_true, ↓bcase_false, WA, simprocAttr, wrap_i64, c, markT]
  simp +contextual (maxSteps := 2000000) (disch := ((try unfold LIM at *); omega)) only [↓bcase_true, ↓bcase_false, WA, simprocAttr, wrap_i64, c, markT]
  refine LoopThen.pure (ι := Nat × ByteArray) (fun p => digT p.1 p.2 = digT k.toNat ⟨#[]⟩ ∧ p.1 * 10 ^ p.2.size ≤ k.toNat ∧ p.2.size ≤ 19) (fun p => keepL [(0, .s (.int .i64 p.1)), (3, .s (.string p.2))]) (fun p => p.1) 6 [0, 3] 1000 1000
    ⟨(k.toNat, ⟨#[]⟩), ⟨rfl, by show k.toNat * 10 ^ 0 ≤ _; simp, Nat.zero_le _⟩, by have e : (k.toNat : Int) = k := Int.toNat_of_nonneg (by omega); simp +contextual (maxSteps := 2000000) (disch := ((try unfold LIM at *); omega)) only [↓bcase_true, ↓bcase_false, WA, simprocAttr, wrap_i64, e]⟩ ?_
  rintro ⟨n, acc⟩ ⟨p1, p2, p3⟩
  simp only at p1 p2 p3
  by_cases d : (0 : Int) < n
  · have hsz : acc.size < 19 := by
      have h2 : 1 * 10 ^ acc.size ≤ n * 10 ^ acc.size := Nat.mul_le_mul_right _ (by omega)
      have h3 : 10 ^ acc.size < 10 ^ 19 := by omega
      exact (Nat.pow_lt_pow_iff_right (by omega)).1 h3
    have hn : n * 1 ≤ n * 10 ^ acc.size := Nat.mul_le_mul_left _ (Nat.pos_of_ne_zero (by simp))
    have e1 : (n : Int).tmod 10 = ((n % 10 : Nat) : Int) := by rw [Int.tmod_eq_emod_of_nonneg (by omega)]; omega
    have e2 : (n : Int).tdiv 10 = ((n / 10 : Nat) : Int) := by rw [Int.tdiv_eq_ediv_of_nonneg (by omega)]; omega
    have e3 : IntKind.i64.wrap (48 + ((n % 10 : Nat) : Int)) = ((48 + n % 10 : Nat) : Int) := by rw [wrap_i64 (by omega) (by omega)]; omega
    have e4 : IntKind.u8.wrap ((48 + n % 10 : Nat) : Int) = ((48 + n % 10 : Nat) : Int) := by
      unfold IntKind.wrap
      exact Int.emod_eq_of_lt (by omega) (by simp [IntKind.bits]; omega)
    have e5 : IntKind.i64.wrap ((n / 10 : Nat) : Int) = ((n / 10 : Nat) : Int) := wrap_i64 (by omega) (by omega)
    have hz : (⟨#[UInt8.ofNat (48 + n % 10)]⟩ : ByteArray).size = 1 := rfl
    have e6 : (⟨#[UInt8.ofNat (48 + n % 10)]⟩ : ByteArray).size + acc.size ≤ LIM := by rw [hz]; unfold LIM; omega
    have e7 : (0 : Int) ≤ ((48 + n % 10 : Nat) : Int) ∧ ((48 + n % 10 : Nat) : Int) < 256 := by omega
    simp +contextual (maxSteps := 2000000) (disch := ((try unfold LIM at *); omega)) only [↓bcase_true, ↓bcase_false, WA, simprocAttr, wrap_i64, d, e1, e2, e3, e4, e5, Int.toNat_natCast, e6, e7]
    refine ⟨(n / 10, ⟨#[UInt8.ofNat (48 + n % 10)]⟩ ++ acc), ⟨⟨?_, ?_, ?_⟩, by simp only; omega⟩, rfl⟩
    · rw [← p1]; conv => rhs; rw [digT]
      rw [if_neg (by omega)]
    · rw [ByteArray.size_append, hz, Nat.pow_add]
      calc n / 10 * (10 ^ 1 * 10 ^ acc.size) = (n / 10 * 10) * 10 ^ acc.size := by rw [Nat.pow_one, Nat.mul_assoc]
        _ ≤ n * 10 ^ acc.size := Nat.mul_le_mul_right _ (by omega)
        _ ≤ k.toNat := p2
    · rw [ByteArray.size_append, hz]; omega
  · have e : n = 0 := by omega
    subst e
    have e6 : (⟨#[109]⟩ : ByteArray).size + acc.size ≤ LIM := by
      have hz : (⟨#[109]⟩ : ByteArray).size = 1 := rfl
      rw [hz]; unfold LIM; omega
    have e8 : digT k.toNat ⟨#[]⟩ = acc := by rw [← p1, digT]; rfl
    simp +contextual (maxSteps := 2000000) (disch := ((try unfold LIM at *); omega)) only [↓bcase_true, ↓bcase_false, WA, simprocAttr, wrap_i64, d, e6, e8]
end Go.Proofs.Ytpcgnmoogjahbaa
/- part W35 -/
set_option linter.unusedVariables false
set_option linter.unusedSimpArgs false
namespace Go.W
open Go Go.RowKit

/-! ### Functions that write into blocks of their caller's -/
section
variable {C : Cx} {h : H} {n0 : Nat}
theorem Up.keep {R : Res → H → Prop} {r : V} (hs : H) (hcr : ∀ ρ, rnV ρ r = r) (hl : hs.length = n0) (hg : gcL (nm (List.range n0) h.length) h (List.range n0) hs) (hr : R (.ret r) hs) : Up n0 R (.ret r) h :=
  ⟨r, hs, _, Arr.gc (gcOk_ofN List.nodup_range (by rw [List.take_of_length_le (by simp)]) hg), .inr (hcr _).symm, hr⟩

/-- f is handed the blocks hs, answers r, and leaves the blocks as hs'. -/
structure EditV (C : Cx) (f : Nat) (args : List V) (hs : H) (r : V) (hs' : H) : Prop where
  cr : ∀ ρ, rnV ρ r = r
  nr : hs'.all (fun B => nrs B.els) = true
  calls : CallsV C f args hs fun res h' => res = .ret r ∧ h' = hs'
theorem EditV.at_ {f : Nat} {args args' : List V} {hs hs' : H} {r : V} (p : EditV C f args hs r hs') (bs : List Nat) (H : H) (hn : bs.Nodup) (hg : gcL (emb bs H.length) H bs hs) (ha : args' = args.map (rnV (emb bs H.length))) :
    CallsV C f args' H fun res h' => res = .ret r ∧ h' = setAll H bs hs' := by
  obtain ⟨g1, g2⟩ := gcL_spec hg
  have := CallsV.frame p.calls bs H g1 hn g2
  rw [← ha] at this
  refine this.mono fun res h' ⟨x, h1, ⟨q1, q2⟩, q3, q4⟩ => ?_
  subst q1; subst q2
  refine ⟨by rw [q3]; simp only [rnRes, p.cr], ?_⟩
  rw [q4, map_same fun B hB => nrs_rn _ (List.all_eq_true.1 p.nr B hB)]
theorem setAll_nil (H h : Go.W.H) : setAll H [] h = H ++ h := by cases h <;> rfl
theorem setAll_cons (H : Go.W.H) (i : Nat) (l : List Nat) (B : Blk) (h : Go.W.H) : setAll H (i :: l) (B :: h) = setAll (H.set i B) l h := rfl
variable {N m : Nat} {Q : QT} {k : List It} {τ : Tau}
theorem CallThen.edit {f : Nat} {args args' : List V} {hs hs' : H} {r : V} {d : Option Nat} (p : EditV C f args hs r hs') (bs : List Nat) (hn : bs.Nodup) (hg : gcL (emb bs h.length) h bs hs) (ha : args' = args.map (rnV (emb bs h.length))) (m : Nat)
    (hr : Run C N n0 m Q k (upo d r τ) (setAll h bs hs')) : CallThen C N n0 Q f args' d k τ h :=
  CallThen.of m (p.at_ bs h hn hg ha) fun res h' ⟨e1, e2⟩ => by subst e1; subst e2; exact hr
theorem DCall.edit {h0 : H} {exc : List Nat} {ops : Array Oper} {fuel : Nat} {listed : Array Bool} {f : Nat} {args args' : List V} {hs hs' : H} {r : V} {d : Option Nat} {nw : List Nat} (p : EditV C f args hs r hs') (bs : List Nat) (hn : bs.Nodup) (hg : gcL (emb bs (hide h0 exc h).length) (hide h0 exc h) bs hs) (ha : args' = args.map (rnV (emb bs (hide h0 exc h).length))) (m : Nat) (td : TD) (hd : drawOk ops [] listed td = true)
    (hr : RunD C N n0 m Q k h0 exc ops fuel listed td (addN d nw) (upo d r τ) (show_ h0 exc h (setAll (hide h0 exc h) bs hs'))) : DCall C N n0 Q h0 exc ops fuel listed k f args' d nw τ h :=
  DCall.of m td hd (p.at_ bs _ hn hg ha) fun res h' ⟨e1, e2⟩ => by subst e1; subst e2; exact hr
end
set_option linter.all false in
noncomputable def WB8 := And.intro (And.intro @loopN_normal @loopN_exit) (And.intro (And.intro @loopN_ret @loopN_pan) (And.intro (And.intro @setAll_nil @setAll_cons) (And.intro @gcL_nil @gcL_cons)))
end Go.W
/- part D23 -/
set_option linter.unusedVariables false
set_option linter.unusedSimpArgs false
set_option maxRecDepth 100000
namespace Go.Proofs.Ytpcgnmoogjahbaa
open Go Go.W Go.RowKit
def markF (k : Int) (i : Nat) : List Fl := (List.range i).map fun (j : Nat) => (markT (k + 2 * (j : Int)), markT (k + 2 * (j : Int) + 1))
theorem markF_len (k : Int) (i : Nat) : (markF k i).length = i := by simp [markF]
theorem markF_zero (k : Int) : markF k 0 = [] := rfl
theorem markF_succ (k : Int) (i : Nat) : markF k (i + 1) = markF k i ++ [(markT (k + 2 * (i : Int)), markT (k + 2 * (i : Int) + 1))] := by simp [markF, List.range_succ]
theorem markF_get {k : Int} {n i : Nat} (h : (i : Int) < n) : (markF k n)[i]? = some (markT (k + 2 * (i : Int)), markT (k + 2 * (i : Int) + 1)) := by
  have : i < n := by omega
  simp [markF, List.getElem?_range, this]
theorem walk52 (l : List Fl) (k : Int) (cap : Nat) (hl : l.length ≤ 1048576) (hc : l.length ≤ cap) (h0 : 0 ≤ k) (h1 : k ≤ 1000000000) :
    EditV C 52 [.sl 0 0 l.length cap, .s (.int .i64 k)] [⟨l.map fV, 2, cap, true⟩] (.s (.int .i64 (k + 2 * l.length))) [⟨(markF k l.length).map fV, 2, cap, true⟩] := by
  refine ⟨fun _ => rfl, by simp [nrs_map fV_nr], ?_⟩
  refine calls_of_run Try.func52 rfl (by kernel_rfl) (by kernel_rfl) (by simp) 1000 ?_
  simp +contextual (maxSteps := 2000000) (disch := ((try unfold LIM at *); omega)) only [↓bcase_true, ↓bcase_false, WA, simprocAttr, wrap_i64]
  refine LoopThen.ownN 1 (ι := Nat) (fun i => i ≤ l.length) (fun i => [(0, .sl 0 0 l.length cap), (1, .s (.int .i64 (k + 2 * i))), (5, .s (.int .i64 i))]) (fun i => [⟨(markF k i).map fV ++ (l.drop i).map fV, 2, cap, true⟩]) (fun i => l.length - i) 1000 1000
    ⟨0, Nat.zero_le _, [0], by simp, by simp +contextual (maxSteps := 2000000) (disch := ((try unfold LIM at *); omega)) only [↓bcase_true, ↓bcase_false, WA, simprocAttr, wrap_i64, markF_zero, nrs_map fV_nr, true_or, List.map_nil, List.nil_append, List.drop_zero, WB8], by simp +contextual (maxSteps := 2000000) (disch := ((try unfold LIM at *); omega)) only [↓bcase_true, ↓bcase_false, WA, simprocAttr, wrap_i64, Int.mul_zero, Int.add_zero]⟩ ?_
  rintro i p1
  by_cases d : (i : Int) < l.length
  · obtain ⟨f, hf⟩ := get_lt d
    have pi : (0 : Int) ≤ i := by omega
    have la : ((markF k i).map fV).length = i := by rw [List.length_map, markF_len]
    have g1 : ∀ y (X : List (List V)), ((markF k i).map fV ++ y :: X)[i]? = some y := fun y X => mid_get la
    have g2 : ∀ x y (X : List (List V)), ((markF k i).map fV ++ y :: X).set i x = (markF k i).map fV ++ x :: X := fun x y X => mid_set la
    have ez : k + 2 * (i : Int) + 1 + 1 = k + 2 * ((i + 1 : Nat) : Int) := by omega
    rw [drop_cons hf, List.map_cons]
    simp +contextual (maxSteps := 2000000) (disch := ((try unfold LIM at *); omega)) only [↓bcase_true, ↓bcase_false, WA, simprocAttr, wrap_i64, WB8, d, pi, g1, g2, fV, List.set_cons_zero, List.set_cons_succ, cast_succ, ez]
    refine CallThen.pure (walk66 _ (by omega)) 1000 ?_
    simp +contextual (maxSteps := 2000000) (disch := ((try unfold LIM at *); omega)) only [↓bcase_true, ↓bcase_false, WA, simprocAttr, wrap_i64, WB8, d, pi, g1, g2, fV, List.set_cons_zero, List.set_cons_succ, cast_succ, ez]
    refine CallThen.pure (walk66 _ (by omega)) 1000 ?_
    simp +contextual (maxSteps := 2000000) (disch := ((try unfold LIM at *); omega)) only [↓bcase_true, ↓bcase_false, WA, simprocAttr, wrap_i64, WB8, d, pi, g1, g2, fV, List.set_cons_zero, List.set_cons_succ, cast_succ, ez]
    exact ⟨i + 1, ⟨by omega, by omega⟩, [0], ⟨by simp, rfl⟩, ⟨.inl ⟨by simp only [nrs_append, nrs_map fV_nr, Bool.and_self], by rw [markF_succ]; simp [fV]⟩, trivial⟩, rfl, rfl, rfl⟩
  · have e : i = l.length := by omega
    subst e
    simp +contextual (maxSteps := 2000000) (disch := ((try unfold LIM at *); omega)) only [↓bcase_true, ↓bcase_false, WA, simprocAttr, wrap_i64, WB8, d]
    exact Up.keep [⟨(markF k l.length).map fV, 2, cap, true⟩] (fun _ => rfl) rfl (by show gcL _ _ [0] _; exact ⟨.inl ⟨nrs_map fV_nr _, by simp⟩, trivial⟩) ⟨rfl, rfl⟩
theorem walk53 (k : Int) (n : Nat) (hl : n ≤ 1048576) (h0 : 0 ≤ k) (h1 : k ≤ 1000000000) : PureV C 53 [.f 2 ((markF k n).map fV), .s (.int .i64 k)] (.s (.int .i64 (k + 2 * n))) := by
  refine pure_of_run Try.func53 rfl (by kernel_rfl) (by kernel_rfl) (by simp) (fun _ => rfl) (fun _ => rfl) 6 1000 ?_
  simp +contextual (maxSteps := 2000000) (disch := ((try unfold LIM at *); omega)) only [↓bcase_true, ↓bcase_false, WA, simprocAttr, wrap_i64]
  refine LoopThen.pure (ι := Nat) (fun i => i ≤ n) (fun i => keepL [(0, .f 2 ((markF k n).map fV)), (1, .s (.int .i64 (k + 2 * i))), (5, .s (.int .i64 i))]) (fun i => n - i) 6 [0, 1, 5] 1000 1000 ⟨0, Nat.zero_le _, by simp +contextual (maxSteps := 2000000) (disch := ((try unfold LIM at *); omega)) only [↓bcase_true, ↓bcase_false, WA, simprocAttr, wrap_i64, Int.mul_zero, Int.add_zero]⟩ ?_
  rintro i p1
  by_cases d : (i : Int) < n
  · have pi : (0 : Int) ≤ i := by omega
    have hm := markF_get (k := k) d
    have ez : k + 2 * (i : Int) + 1 + 1 = k + 2 * ((i + 1 : Nat) : Int) := by omega
    simp +contextual (maxSteps := 2000000) (disch := ((try unfold LIM at *); omega)) only [↓bcase_true, ↓bcase_false, WA, simprocAttr, wrap_i64, List.length_map, markF_len, d, pi, hm, fV, bne_self_eq_false, cast_succ, ez]
    try intro _
    refine DrawThen.of 1000 [] (.old 0 (.old 1 (.old 2 (.old 3 (.old 4 (.old 5 (.go 6 (.new 7 .done)))))))) (panFree_loopP (panFree_pure _ _ _)) (by kernel_rfl) (by kernel_rfl) (by kernel_rfl) ?_
    simp +contextual (maxSteps := 2000000) (disch := ((try unfold LIM at *); omega)) only [↓bcase_true, ↓bcase_false, WA, simprocAttr, wrap_i64, List.length_map, markF_len, d, pi, hm, fV, bne_self_eq_false, cast_succ, ez]
    refine DCall.pure (walk66 _ (by omega)) 1000 (.new 7 .done) (by kernel_rfl) ?_
    simp +contextual (maxSteps := 2000000) (disch := ((try unfold LIM at *); omega)) only [↓bcase_true, ↓bcase_false, WA, simprocAttr, wrap_i64, List.length_map, markF_len, d, pi, hm, fV, bne_self_eq_false, cast_succ, ez]
    refine DrawThen.of 1000 [] (.old 0 (.old 1 (.old 2 (.old 3 (.old 4 (.old 5 (.go 6 (.new 7 .done)))))))) (panFree_loopP (panFree_pure _ _ _)) (by kernel_rfl) (by kernel_rfl) (by kernel_rfl) ?_
    simp +contextual (maxSteps := 2000000) (disch := ((try unfold LIM at *); omega)) only [↓bcase_true, ↓bcase_false, WA, simprocAttr, wrap_i64, List.length_map, markF_len, d, pi, hm, fV, bne_self_eq_false, cast_succ, ez]
    refine DCall.pure (walk66 _ (by omega)) 1000 (.new 7 .done) (by kernel_rfl) ?_
    simp +contextual (maxSteps := 2000000) (disch := ((try unfold LIM at *); omega)) only [↓bcase_true, ↓bcase_false, WA, simprocAttr, wrap_i64, List.length_map, markF_len, d, pi, hm, fV, bne_self_eq_false, cast_succ, ez]
    exact ⟨i + 1, ⟨by omega, by omega⟩, rfl⟩
  · have e : i = n := by omega
    subst e
    simp +contextual (maxSteps := 2000000) (disch := ((try unfold LIM at *); omega)) only [↓bcase_true, ↓bcase_false, WA, simprocAttr, wrap_i64, List.length_map, markF_len, d]
def markO (k : Int) (i : Nat) : List Opn := (List.range i).map fun (j : Nat) => (k + 3 * (j : Int), markT (k + 3 * (j : Int) + 1), markT (k + 3 * (j : Int) + 2))
theorem markO_len (k : Int) (i : Nat) : (markO k i).length = i := by simp [markO]
theorem markO_zero (k : Int) : markO k 0 = [] := rfl
theorem markO_succ (k : Int) (i : Nat) : markO k (i + 1) = markO k i ++ [(k + 3 * (i : Int), markT (k + 3 * (i : Int) + 1), markT (k + 3 * (i : Int) + 2))] := by simp [markO, List.range_succ]
theorem markO_get {k : Int} {n i : Nat} (h : (i : Int) < n) : (markO k n)[i]? = some (k + 3 * (i : Int), markT (k + 3 * (i : Int) + 1), markT (k + 3 * (i : Int) + 2)) := by
  have : i < n := by omega
  simp [markO, List.getElem?_range, this]
theorem walk99 (l : List Opn) (k : Int) (cap : Nat) (hl : l.length ≤ 1048576) (hc : l.length ≤ cap) (h0 : 0 ≤ k) (h1 : k ≤ 1000000000) :
    EditV C 99 [.sl 0 0 l.length cap, .s (.int .i64 k)] [⟨l.map oV, 3, cap, true⟩] (.s (.int .i64 (k + 3 * l.length))) [⟨(markO k l.length).map oV, 3, cap, true⟩] := by
  refine ⟨fun _ => rfl, by simp [nrs_map oV_nr], ?_⟩
  refine calls_of_run Try.func99 rfl (by kernel_rfl) (by kernel_rfl) (by simp) 1000 ?_
  simp +contextual (maxSteps := 2000000) (disch := ((try unfold LIM at *); omega)) only [↓bcase_true, ↓bcase_false, WA, simprocAttr, wrap_i64]
  refine LoopThen.ownN 1 (ι := Nat) (fun i => i ≤ l.length) (fun i => [(0, .sl 0 0 l.length cap), (1, .s (.int .i64 (k + 3 * i))), (5, .s (.int .i64 i))]) (fun i => [⟨(markO k i).map oV ++ (l.drop i).map oV, 3, cap, true⟩]) (fun i => l.length - i) 1000 1000
    ⟨0, Nat.zero_le _, [0], by simp, by simp +contextual (maxSteps := 2000000) (disch := ((try unfold LIM at *); omega)) only [↓bcase_true, ↓bcase_false, WA, simprocAttr, wrap_i64, markO_zero, nrs_map oV_nr, true_or, List.map_nil, List.nil_append, List.drop_zero, WB8], by simp +contextual (maxSteps := 2000000) (disch := ((try unfold LIM at *); omega)) only [↓bcase_true, ↓bcase_false, WA, simprocAttr, wrap_i64, Int.mul_zero, Int.add_zero]⟩ ?_
  rintro i p1
  by_cases d : (i : Int) < l.length
  · obtain ⟨f, hf⟩ := get_lt d
    have pi : (0 : Int) ≤ i := by omega
    have la : ((markO k i).map oV).length = i := by rw [List.length_map, markO_len]
    have g1 : ∀ y (X : List (List V)), ((markO k i).map oV ++ y :: X)[i]? = some y := fun y X => mid_get la
    have g2 : ∀ x y (X : List (List V)), ((markO k i).map oV ++ y :: X).set i x = (markO k i).map oV ++ x :: X := fun x y X => mid_set la
    have e2 : k + 3 * (i : Int) + 1 + 1 = k + 3 * (i : Int) + 2 := by omega
    have ez : k + 3 * (i : Int) + 2 + 1 = k + 3 * ((i + 1 : Nat) : Int) := by omega
    rw [drop_cons hf, List.map_cons]
    simp +contextual (maxSteps := 2000000) (disch := ((try unfold LIM at *); omega)) only [↓bcase_true, ↓bcase_false, WA, simprocAttr, wrap_i64, WB8, d, pi, g1, g2, oV, List.set_cons_zero, List.set_cons_succ, cast_succ, e2, ez]
    refine CallThen.pure (walk66 _ (by omega)) 1000 ?_
    simp +contextual (maxSteps := 2000000) (disch := ((try unfold LIM at *); omega)) only [↓bcase_true, ↓bcase_false, WA, simprocAttr, wrap_i64, WB8, d, pi, g1, g2, oV, List.set_cons_zero, List.set_cons_succ, cast_succ, e2, ez]
    refine CallThen.pure (walk66 _ (by omega)) 1000 ?_
    simp +contextual (maxSteps := 2000000) (disch := ((try unfold LIM at *); omega)) only [↓bcase_true, ↓bcase_false, WA, simprocAttr, wrap_i64, WB8, d, pi, g1, g2, oV, List.set_cons_zero, List.set_cons_succ, cast_succ, e2, ez]
    exact ⟨i + 1, ⟨by omega, by omega⟩, [0], ⟨by simp, rfl⟩, ⟨.inl ⟨by simp only [nrs_append, nrs_map oV_nr, Bool.and_self], by rw [markO_succ]; simp [oV]⟩, trivial⟩, rfl, rfl, rfl⟩
  · have e : i = l.length := by omega
    subst e
    simp +contextual (maxSteps := 2000000) (disch := ((try unfold LIM at *); omega)) only [↓bcase_true, ↓bcase_false, WA, simprocAttr, wrap_i64, WB8, d]
    exact Up.keep [⟨(markO k l.length).map oV, 3, cap, true⟩] (fun _ => rfl) rfl (by show gcL _ _ [0] _; exact ⟨.inl ⟨nrs_map oV_nr _, by simp⟩, trivial⟩) ⟨rfl, rfl⟩
theorem walk101 (k : Int) (n : Nat) (hl : n ≤ 1048576) (h0 : 0 ≤ k) (h1 : k ≤ 1000000000) : PureV C 101 [.f 3 ((markO k n).map oV), .s (.int .i64 k)] (.s (.int .i64 (k + 3 * n))) := by
  refine pure_of_run Try.func101 rfl (by kernel_rfl) (by kernel_rfl) (by simp) (fun _ => rfl) (fun _ => rfl) 6 1000 ?_
  simp +contextual (maxSteps := 2000000) (disch := ((try unfold LIM at *); omega)) only [↓bcase_true, ↓bcase_false, WA, simprocAttr, wrap_i64]
  refine LoopThen.pure (ι := Nat) (fun i => i ≤ n) (fun i => keepL [(0, .f 3 ((markO k n).map oV)), (1, .s (.int .i64 (k + 3 * i))), (5, .s (.int .i64 i))]) (fun i => n - i) 6 [0, 1, 5] 1000 1000 ⟨0, Nat.zero_le _, by simp +contextual (maxSteps := 2000000) (disch := ((try unfold LIM at *); omega)) only [↓bcase_true, ↓bcase_false, WA, simprocAttr, wrap_i64, Int.mul_zero, Int.add_zero]⟩ ?_
  rintro i p1
  by_cases d : (i : Int) < n
  · have pi : (0 : Int) ≤ i := by omega
    have hm := markO_get (k := k) d
    have e2 : k + 3 * (i : Int) + 1 + 1 = k + 3 * (i : Int) + 2 := by omega
    have ez : k + 3 * (i : Int) + 2 + 1 = k + 3 * ((i + 1 : Nat) : Int) := by omega
    simp +contextual (maxSteps := 2000000) (disch := ((try unfold LIM at *); omega)) only [↓bcase_true, ↓bcase_false, WA, simprocAttr, wrap_i64, List.length_map, markO_len, d, pi, hm, oV, bne_self_eq_false, cast_succ, e2, ez]
    try intro _
    refine DrawThen.of 1000 [] (.old 0 (.old 1 (.old 2 (.old 3 (.old 4 (.old 5 (.go 6 (.new 7 .done)))))))) (panFree_loopP (panFree_pure _ _ _)) (by kernel_rfl) (by kernel_rfl) (by kernel_rfl) ?_
    simp +contextual (maxSteps := 2000000) (disch := ((try unfold LIM at *); omega)) only [↓bcase_true, ↓bcase_false, WA, simprocAttr, wrap_i64, List.length_map, markO_len, d, pi, hm, oV, bne_self_eq_false, cast_succ, e2, ez]
    refine DCall.pure (walk66 _ (by omega)) 1000 (.new 7 .done) (by kernel_rfl) ?_
    simp +contextual (maxSteps := 2000000) (disch := ((try unfold LIM at *); omega)) only [↓bcase_true, ↓bcase_false, WA, simprocAttr, wrap_i64, List.length_map, markO_len, d, pi, hm, oV, bne_self_eq_false, cast_succ, e2, ez]
    refine DrawThen.of 1000 [] (.old 0 (.old 1 (.old 2 (.old 3 (.old 4 (.old 5 (.go 6 (.new 7 .done)))))))) (panFree_loopP (panFree_pure _ _ _)) (by kernel_rfl) (by kernel_rfl) (by kernel_rfl) ?_
    simp +contextual (maxSteps := 2000000) (disch := ((try unfold LIM at *); omega)) only [↓bcase_true, ↓bcase_false, WA, simprocAttr, wrap_i64, List.length_map, markO_len, d, pi, hm, oV, bne_self_eq_false, cast_succ, e2, ez]
    refine DCall.pure (walk66 _ (by omega)) 1000 (.new 7 .done) (by kernel_rfl) ?_
    simp +contextual (maxSteps := 2000000) (disch := ((try unfold LIM at *); omega)) only [↓bcase_true, ↓bcase_false, WA, simprocAttr, wrap_i64, List.length_map, markO_len, d, pi, hm, oV, bne_self_eq_false, cast_succ, e2, ez]
    exact ⟨i + 1, ⟨by omega, by omega⟩, rfl⟩
  · have e : i = n := by omega
    subst e
    simp +contextual (maxSteps := 2000000) (disch := ((try unfold LIM at *); omega)) only [↓bcase_true, ↓bcase_false, WA, simprocAttr, wrap_i64, List.length_map, markO_len, d]
end Go.Proofs.Ytpcgnmoogjahbaa
/- part W36 -/
set_option linter.unusedVariables false
set_option linter.unusedSimpArgs false
namespace Go.W
open Go Go.RowKit

/-! ### Answers that hold several slices of one's own -/
section
variable {C : Cx} {h : H} {n0 : Nat}
theorem Up.gc {R : Res → H → Prop} {r : V} (r' : V) (l : List Nat) (hs : H) (hn : l.Nodup) (hg : gcL (nm l h.length) h l hs) (he : r = rnV (nm l h.length) r') (hr : R (.ret r') hs) : Up 0 R (.ret r) h :=
  ⟨r', hs, _, Arr.gc (gcOk_of hn hg), .inr he, hr⟩
theorem Up.gcN {R : Res → H → Prop} {r : V} (r' : V) (l : List Nat) (hs : H) (hn : l.Nodup) (ht : l.take n0 = List.range n0) (hg : gcL (nm l h.length) h l hs) (he : r = rnV (nm l h.length) r') (hr : R (.ret r') hs) : Up n0 R (.ret r) h :=
  ⟨r', hs, _, Arr.gc (gcOk_ofN hn ht hg), .inr he, hr⟩
theorem Up.arr {R : Res → H → Prop} {h' : H} {M : V → V → Prop} {r r' : V} (a : Arr n0 h h' M) (hm : M r r') (u : Up n0 R (.ret r') h') : Up n0 R (.ret r) h := by
  obtain ⟨v, h2, M2, a2, m2, hr⟩ := u
  exact ⟨v, h2, _, a.trans a2, ⟨r', hm, m2⟩, hr⟩
/-- One component that is nil is given a block. -/
def nilC1 (b : Nat) (x x' : V) : Prop := x' = x ∨ (x = .z ∧ x' = .sl b 0 0 0)
def nilQ1 (b : Nat) (x x' : V) : Prop := x' = x ∨ ∃ cs cs', x = .agg cs ∧ x' = .agg cs' ∧ All2 (nilC1 b) cs cs'
def nilV1 (b : Nat) (x x' : V) : Prop := nilQ1 b x x' ∨ ∃ cs cs', x = .tup cs ∧ x' = .tup cs' ∧ All2 (nilQ1 b) cs cs'
theorem all2_map2 {α β γ : Type} {P : α → β → Prop} {R : α → γ → Prop} {R' : β → γ → Prop} (f : ∀ x x' y, P x x' → R x y → R' x' y) : ∀ {xs : List α} {xs' : List β} {ys : List γ}, All2 P xs xs' → All2 R xs ys → All2 R' xs' ys
  | [], [], [], _, _ => trivial
  | x :: xs, x' :: xs', y :: ys, h, a => ⟨f _ _ _ h.1 a.1, all2_map2 f h.2 a.2⟩
  | [], _ :: _, _, h, _ => h.elim
  | _ :: _, [], _, h, _ => h.elim
  | [], [], _ :: _, _, a => a.elim
  | _ :: _, _ :: _, [], _, a => a.elim
theorem Arr.nilV (n : Nat) : Arr n0 h (h ++ [⟨[], n, 0, true⟩]) (nilV1 h.length) := by
  intro S w0 φ w ⟨F, R⟩ hn
  have he : Ext φ (phiPush φ h.length (none, n)) := phiPush_ext (R.dom _ (Nat.le_refl _))
  refine ⟨phiPush φ h.length (none, n), R.allocNil n, phiPush_extN (Nat.le_trans hn (Nat.le_refl _)), by simp; omega, fun x x' v hm r => ?_⟩
  have kc : ∀ x x' v, nilC1 h.length x x' → RelC φ x v → RelC (phiPush φ h.length (none, n)) x' v := by
    intro x x' v hm r
    rcases hm with rfl | ⟨rfl, rfl⟩
    · exact r.ext he
    · exact ⟨none, n, phiPush_new, Nat.le_refl _, r, rfl, rfl, rfl⟩
  have kq : ∀ x x' v, nilQ1 h.length x x' → RelQ φ x v → RelQ (phiPush φ h.length (none, n)) x' v := by
    intro x x' v hm r
    rcases hm with rfl | ⟨cs, cs', rfl, rfl, a⟩
    · exact r.ext he
    · obtain ⟨l, e, b⟩ := r
      exact ⟨l, e, all2_map2 kc a b⟩
  rcases hm with hm | ⟨cs, cs', rfl, rfl, a⟩
  · rcases hm with rfl | ⟨cs, cs', rfl, rfl, a⟩
    · exact r.ext he
    · exact kq (.agg cs) (.agg cs') v (.inr ⟨cs, cs', rfl, rfl, a⟩) r
  · obtain ⟨l, e, b⟩ := r
    exact ⟨l, e, all2_map2 kq a b⟩
end
end Go.W
/- part W37 -/
set_option linter.unusedVariables false
set_option linter.unusedSimpArgs false
namespace Go.W
open Go Go.RowKit

/-! ### A function that only reads, and answers something new of plain values, may be handed what is one's own -/
def zfC : V → Bool
  | .s _ => true
  | .sl _ _ _ _ => true
  | .ptr _ _ _ => true
  | .z => true
  | .any => true
  | _ => false
def zfQ : V → Bool
  | .agg cs => cs.all zfC
  | x => zfC x
def zfV : V → Bool
  | .tup qs => qs.all zfQ
  | x => zfQ x
def zfR : Res → Bool
  | .ret v => zfV v
  | .pan _ => false
section
variable {φ φ' : Phi} {r : Nat → Nat}
theorem zfC_rel (hm : ∀ b q, φ.m b = some q → φ'.m (r b) = some q) {x : V} {v : Value} (hx : zfC x = true) (h : RelC φ x v) : RelC φ' (rnC r x) v := by
  cases x with
  | s a => simp only [rnC, rnP, RelC, RelP, RZ] at h ⊢; exact h
  | sl b off len cap =>
    obtain ⟨p, n, h1, h2, h3⟩ := h
    exact ⟨p, n, hm _ _ h1, h2, h3⟩
  | ptr b i o =>
    obtain ⟨k, n, h1, h2⟩ := h
    exact ⟨k, n, hm _ _ h1, h2⟩
  | z => simp only [rnC, rnP, RelC, RelP, RZ] at h ⊢; exact h
  | any => simp only [rnC, rnP, RelC, RelP, RZ] at h ⊢
  | _ => simp [zfC] at hx
theorem zf_all {R R' : V → Value → Prop} {p : V → Bool} {g : V → V} (hr : ∀ x v, p x = true → R x v → R' (g x) v) : ∀ {xs : List V} {ys : List Value}, xs.all p = true → All2 R xs ys → All2 R' (xs.map g) ys
  | [], [], _, _ => trivial
  | x :: xs, y :: ys, h, a => by
    simp only [List.all_cons, Bool.and_eq_true] at h
    exact ⟨hr _ _ h.1 a.1, zf_all hr h.2 a.2⟩
  | [], _ :: _, _, a => a.elim
  | _ :: _, [], _, a => a.elim
theorem zfQ_rel (hm : ∀ b q, φ.m b = some q → φ'.m (r b) = some q) {x : V} {v : Value} (hx : zfQ x = true) (h : RelQ φ x v) : RelQ φ' (rnQ r x) v := by
  cases x with
  | agg cs =>
    obtain ⟨l, e, a⟩ := h
    exact ⟨l, e, zf_all (fun x v hx h => zfC_rel hm hx h) hx a⟩
  | s a => exact zfC_rel (x := .s a) hm hx h
  | f a b => exact zfC_rel (x := .f a b) hm hx h
  | l a b => exact zfC_rel (x := .l a b) (v := v) hm hx h
  | lp a => exact zfC_rel (x := .lp a) (v := v) hm hx h
  | z  => exact zfC_rel (x := .z ) hm hx h
  | sl a b c d => exact zfC_rel (x := .sl a b c d) hm hx h
  | ptr a b c => exact zfC_rel (x := .ptr a b c) hm hx h
  | pd a => exact zfC_rel (x := .pd a) hm hx h
  | fn a b => exact zfC_rel (x := .fn a b) hm hx h
  | any  => exact zfC_rel (x := .any) (v := v) hm hx h
  | tup a => exact zfC_rel (x := .tup a) (v := v) hm hx h
theorem zfV_rel (hm : ∀ b q, φ.m b = some q → φ'.m (r b) = some q) {x : V} {v : Value} (hx : zfV x = true) (h : RelV φ x v) : RelV φ' (rnV r x) v := by
  cases x with
  | tup cs =>
    obtain ⟨l, e, a⟩ := h
    exact ⟨l, e, zf_all (fun x v hx h => zfQ_rel hm hx h) hx a⟩
  | s a => exact zfQ_rel (x := .s a) hm hx h
  | f a b => exact zfQ_rel (x := .f a b) hm hx h
  | l a b => exact zfQ_rel (x := .l a b) (v := v) hm hx h
  | lp a => exact zfQ_rel (x := .lp a) (v := v) hm hx h
  | z  => exact zfQ_rel (x := .z ) hm hx h
  | sl a b c d => exact zfQ_rel (x := .sl a b c d) hm hx h
  | ptr a b c => exact zfQ_rel (x := .ptr a b c) hm hx h
  | pd a => exact zfQ_rel (x := .pd a) hm hx h
  | fn a b => exact zfQ_rel (x := .fn a b) hm hx h
  | any  => exact zfQ_rel (x := .any) (v := v) hm hx h
  | agg a => exact zfQ_rel (x := .agg a) hm hx h
end
theorem ls_plain_nil {φ : Phi} {w : World} : ∀ {el : List V} {vs : List Value} {fp : Fp}, el.all plain = true → Ls (Dc φ w) el vs fp → fp = []
  | [], vs, fp, _, h => by simpa only [Ls] using h
  | x :: xs, vs, fp, hp, h => by
    simp only [Ls] at h
    obtain ⟨v, r, f1, f2, e1, e2, h1, h2⟩ := h
    simp only [List.all_cons, Bool.and_eq_true] at hp
    have := ls_plain_nil hp.2 h2
    subst this; subst e2
    cases x with
    | s a =>
      rcases h1 with ⟨_, q⟩ | q
      · simp [q]
      · simp only [T] at q; simp [q.2]
    | _ => simp [plain] at hp
theorem lss_plain_nil {φ : Phi} {w : World} {n : Nat} : ∀ {els : List (List V)} {vs : List Value} {fp : Fp}, plains els = true → Lss (Dc φ w) n els vs fp → fp = []
  | [], vs, fp, _, h => by simpa only [Lss] using h
  | el :: els, vs, fp, hp, h => by
    simp only [Lss] at h
    obtain ⟨h0, f1, f2, e, h1, h2⟩ := h
    simp only [plains, List.all_cons, Bool.and_eq_true] at hp
    rw [e, ls_plain_nil hp.1 h1, lss_plain_nil (by simpa [plains] using hp.2) h2]; rfl
section
variable {C : Cx}
theorem CallsV.lend {f : Nat} {args args' : List V} {R0 : Res → H → Prop} (p : CallsV C f args [] R0) (hz : ∀ r h', R0 r h' → zfR r = true ∧ h'.all (fun B => plains B.els) = true) (d : Nat) (H : H) (ha : args = args'.map (Go.W.frz 0 d H)) :
    CallsV C f args' H fun res h' => ∃ r h1, R0 r h1 ∧ res = rnRes (fun b => H.length + b) r ∧ h' = H ++ h1 := by
  intro S w0 φ vs w G R hargs
  obtain ⟨φ', R', E', _, m'⟩ := Arr.frz (n0 := 0) d S w0 φ w R (Nat.zero_le _)
  have R0' : Rel (fun _ => False) w ⟨fun _ => none, φ'.z⟩ [] w := by
    obtain ⟨F', R'⟩ := R'
    exact ⟨fun _ => [], Kept.refl _ _, fun _ _ => rfl, R'.zok, fun _ _ _ h => by simp at h, fun _ _ h => by simp at h, fun _ => List.nodup_nil, fun _ _ _ h => by simp at h, fun _ _ => rfl, fun b B h => by simp at h⟩
  have hargs' : All2 (RelV ⟨fun _ => none, φ'.z⟩) args vs.toList := by
    subst ha
    refine all2_map.2 (hargs.mono fun x v rv => ?_)
    have := m' x (Go.W.frz 0 d H x) v (.inr rfl) rv
    have hc := (frz_closed (fun b => H.length + b) 0 H d x).2.2.2
    rw [← hc] at this
    have hrn : Rn (fun b => H.length + b) φ' ⟨fun _ => none, φ'.z⟩ := ⟨fun b q e => by
      obtain ⟨F', R'⟩ := R'
      have hd := R'.dom (H.length + b) (by simp [killFrom])
      rw [hd] at e; exact absurd e (by simp), FLe.refl _⟩
    exact hrn.v this
  refine (p (fun _ => False) w ⟨fun _ => none, φ'.z⟩ vs w (G.mono E'.z) R0' hargs').mono fun e w1 ⟨res, φ1, h1, q1, q2, q3, q4, q5⟩ => ?_
  obtain ⟨F1, R1⟩ := q2
  obtain ⟨F, R⟩ := R
  obtain ⟨z1, z2⟩ := hz _ _ q5
  have gr : w.grownBy w1 none := ⟨R1.kept.os, R1.kept.tape, R1.kept.output, R1.kept.size, fun k hk _ => R1.kept.block k hk id⟩
  have new : ∀ b k, k ∈ F1 b → w.heap.size ≤ k := fun b k hk => by
    rcases (R1.mine b k hk).1 with q | q
    · exact q.elim
    · exact q
  have old : ∀ b k, k ∈ F b → k < w.heap.size := fun b k hk => (R.mine b k hk).2
  let φ2 : Phi := ⟨fun b => if b < H.length then φ.m b else φ1.m (b - H.length), φ.z⟩
  have m1 : ∀ b, b < H.length → φ2.m b = φ.m b := fun b hb => by show (if b < H.length then _ else _) = _; rw [if_pos hb]
  have m2 : ∀ b, φ2.m (H.length + b) = φ1.m b := fun b => by show (if H.length + b < H.length then _ else _) = _; rw [if_neg (by omega), show H.length + b - H.length = b by omega]
  have he : Ext φ φ2 := ⟨fun b p hb => by
    by_cases q : b < H.length
    · rw [m1 b q]; exact hb
    · have := R.dom b (by omega)
      rw [this] at hb; exact absurd hb (by simp), FLe.refl _⟩
  have Rg := R.grow gr
  refine ⟨rnRes (fun b => H.length + b) res, φ2, H ++ h1, ?_, ⟨fun b => if b < H.length then F b else F1 (b - H.length), Rg.kept, ?_, Rg.zok, ?_, ?_, ?_, ?_, ?_, ?_⟩, ⟨fun b hb => m1 b hb, FLe.refl _, fun _ _ _ e => .inl e⟩, by simp, res, h1, q5, rfl, rfl⟩
  · cases res with
    | ret v =>
      obtain ⟨cv, e1, rv⟩ := q1
      exact ⟨cv, e1, zfV_rel (fun b q hb => by rw [m2]; exact hb) z1 rv⟩
    | pan v => simp [zfR] at z1
  · intro b hb
    simp only [List.length_append] at hb
    have : b = H.length + (b - H.length) := by omega
    rw [this, m2]; exact R1.dom _ (by omega)
  · intro b k o hk
    by_cases q : b < H.length
    · simp only [q, if_true] at hk; exact R.znot b k o hk
    · simp only [q, if_false] at hk
      have h2 := new _ _ hk
      cases e : φ2.z k o with
      | none => rfl
      | some v =>
        have := World.block_lt_of_cell? _ _ (R.zok k o v e)
        simp only at this; omega
  · intro b k hk
    by_cases q : b < H.length
    · simp only [q, if_true] at hk; exact Rg.mine b k hk
    · simp only [q, if_false] at hk
      exact ⟨.inr (Nat.le_trans R.kept.size (new _ _ hk)), (R1.mine _ k hk).2⟩
  · intro b
    by_cases q : b < H.length
    · simp only [q, if_true]; exact R.nodup b
    · simp only [q, if_false]; exact R1.nodup _
  · intro b b' k hk hk'
    by_cases q : b < H.length <;> by_cases q' : b' < H.length <;> simp only [q, q', if_true, if_false] at hk hk'
    · exact R.disj b b' k hk hk'
    · have := old _ _ hk; have := new _ _ hk'; omega
    · have := old _ _ hk'; have := new _ _ hk; omega
    · have := R1.disj _ _ k hk hk'; omega
  · intro b hb
    simp only [List.length_append] at hb
    simp only [show ¬ b < H.length by omega, if_false]
    exact R1.out _ (by omega)
  · intro b B hB
    by_cases q : b < H.length
    · simp only [q, if_true]
      rw [List.getElem?_append_left q] at hB
      exact (Rg.blk b B hB).keep he fun _ _ => rfl
    · simp only [q, if_false]
      rw [List.getElem?_append_right (by omega)] at hB
      have hr := R1.blk _ B hB
      have hp : plains B.els = true := List.all_eq_true.1 z2 B (List.mem_of_getElem? hB)
      unfold BlkRel at hr ⊢
      split
      · rename_i hl
        rw [if_pos hl] at hr
        obtain ⟨p, k1, k2, k3, k4⟩ := hr
        refine ⟨p, by rw [← m2, show H.length + (b - H.length) = b by omega] at k1; exact k1, k2, k3, ?_⟩
        cases p with
        | none => exact k4
        | some k =>
          obtain ⟨c, ty, fq, r1, r2, r3, r4, r5⟩ := k4
          have := lss_plain_nil hp r4
          subst this
          exact ⟨c, ty, [], r1, r2, r3, lss_plain hp r4, r5⟩
      · rename_i hl
        rw [if_neg hl] at hr; exact hr
end
end Go.W
/- part D24 -/
set_option linter.unusedVariables false
set_option linter.unusedSimpArgs false
set_option maxRecDepth 100000
namespace Go.Proofs.Ytpcgnmoogjahbaa
open Go Go.W Go.RowKit
theorem new72 (l : List Fl) (hl : l.length ≤ 1048576) : NewV C 72 [.f 2 (l.map fV)] 2 (l.map fV) := by
  refine calls_of_run Try.func72 rfl (by kernel_rfl) (by kernel_rfl) (by simp) 1000 ?_
  have z1 := fun n => nrs_replicate (el := [V.s (.string ⟨#[]⟩), .s (.string ⟨#[]⟩)]) rfl n
  have b0 : (0 : Int) ≤ l.length := by omega
  have b1 : (32 : Int) * l.length ≤ 140737488355328 := by omega
  have b2 : (l.length : Int) ≤ 4611686018427387904 := by omega
  simp +contextual (maxSteps := 2000000) (disch := ((try unfold LIM at *); omega)) only [↓bcase_true, ↓bcase_false, WA, simprocAttr, wrap_i64, List.length_map, b0, b1, b2, Int.le_refl]
  intro hl'
  refine LoopThen.own (ι := Nat) (fun i => i ≤ l.length) (fun i => [(0, .f 2 (l.map fV)), (3, .sl 0 0 l.length l.length), (4, .s (.int .i64 i))]) (fun i => [⟨(l.take i).map fV ++ List.replicate (l.length - i) [V.s (.string ⟨#[]⟩), .s (.string ⟨#[]⟩)], 2, l.length, true⟩]) (fun i => l.length - i)
    1000 1000 ⟨0, Nat.zero_le _, [0], by simp, by simp +contextual (maxSteps := 2000000) (disch := ((try unfold LIM at *); omega)) only [↓bcase_true, ↓bcase_false, WA, simprocAttr, wrap_i64, z1, Nat.sub_zero, true_or], by simp +contextual (maxSteps := 2000000) (disch := ((try unfold LIM at *); omega)) only [↓bcase_true, ↓bcase_false, WA, simprocAttr, wrap_i64]⟩ ?_
  intro i p1
  by_cases c2 : (i : Int) < l.length
  · obtain ⟨f, hf⟩ := get_lt c2
    have pi : (0 : Int) ≤ i := by omega
    obtain ⟨k, hk⟩ : ∃ k, l.length - i = k + 1 := ⟨l.length - i - 1, by omega⟩
    have hl1 : ((l.take i).map fV).length = i := by simp; omega
    have g1 : ((l.take i).map fV ++ List.replicate (l.length - i) [V.s (.string ⟨#[]⟩), .s (.string ⟨#[]⟩)])[i]? = some [V.s (.string ⟨#[]⟩), .s (.string ⟨#[]⟩)] := by rw [fill_get _ _ hl1, hk]; rfl
    have g2 : ((l.take i).map fV ++ List.replicate (l.length - i) [V.s (.string ⟨#[]⟩), .s (.string ⟨#[]⟩)]).set i [V.s (.string f.1), .s (.string f.2)] = (l.take (i + 1)).map fV ++ List.replicate (l.length - (i + 1)) [V.s (.string ⟨#[]⟩), .s (.string ⟨#[]⟩)] := by
      rw [hk, fill_set _ _ _ _ _ hl1, List.take_add_one, hf, show l.length - (i + 1) = k by omega]; simp [fV]
    simp +contextual (maxSteps := 2000000) (disch := ((try unfold LIM at *); omega)) only [↓bcase_true, ↓bcase_false, WA, simprocAttr, wrap_i64, List.length_map, hl', c2, hf, pi, fV]
    refine CallThen.pure (walk108 f) 1000 ?_
    simp +contextual (maxSteps := 2000000) (disch := ((try unfold LIM at *); omega)) only [↓bcase_true, ↓bcase_false, WA, simprocAttr, wrap_i64, List.length_map, c2, pi, fV, g1, g2, cast_succ]
    refine ⟨i + 1, ⟨by omega, by omega⟩, [0], by simp, by simp +contextual (maxSteps := 2000000) (disch := ((try unfold LIM at *); omega)) only [↓bcase_true, ↓bcase_false, WA, simprocAttr, wrap_i64, nrs_append, z1, nrs_map fV_nr, true_or, g2, fV], by simp +contextual (maxSteps := 2000000) (disch := ((try unfold LIM at *); omega)) only [↓bcase_true, ↓bcase_false, WA, simprocAttr, wrap_i64]⟩
  · have e : i = l.length := by omega
    subst e
    have g4 : (l.take l.length).map fV ++ List.replicate (l.length - l.length) [V.s (.string ⟨#[]⟩), .s (.string ⟨#[]⟩)] = l.map fV := by simp
    simp +contextual (maxSteps := 2000000) (disch := ((try unfold LIM at *); omega)) only [↓bcase_true, ↓bcase_false, WA, simprocAttr, wrap_i64, List.length_map, hl', c2, g4]
    exact Up.fresh (b := 0) rfl (nrs_map fV_nr _) ⟨l.length, Nat.le_refl _, rfl, rfl⟩
theorem new73 (l : List Opn) (hl : l.length ≤ 1048576) : NewV C 73 [.f 3 (l.map oV)] 3 (l.map oV) := by
  refine calls_of_run Try.func73 rfl (by kernel_rfl) (by kernel_rfl) (by simp) 1000 ?_
  have z1 := fun n => nrs_replicate (el := [V.s (.int .i64 0), .s (.string ⟨#[]⟩), .s (.string ⟨#[]⟩)]) rfl n
  have b0 : (0 : Int) ≤ l.length := by omega
  have b1 : (40 : Int) * l.length ≤ 140737488355328 := by omega
  have b2 : (l.length : Int) ≤ 4611686018427387904 := by omega
  simp +contextual (maxSteps := 2000000) (disch := ((try unfold LIM at *); omega)) only [↓bcase_true, ↓bcase_false, WA, simprocAttr, wrap_i64, List.length_map, b0, b1, b2, Int.le_refl]
  intro hl'
  refine LoopThen.own (ι := Nat) (fun i => i ≤ l.length) (fun i => [(0, .f 3 (l.map oV)), (3, .sl 0 0 l.length l.length), (4, .s (.int .i64 i))]) (fun i => [⟨(l.take i).map oV ++ List.replicate (l.length - i) [V.s (.int .i64 0), .s (.string ⟨#[]⟩), .s (.string ⟨#[]⟩)], 3, l.length, true⟩]) (fun i => l.length - i)
    1000 1000 ⟨0, Nat.zero_le _, [0], by simp, by simp +contextual (maxSteps := 2000000) (disch := ((try unfold LIM at *); omega)) only [↓bcase_true, ↓bcase_false, WA, simprocAttr, wrap_i64, z1, Nat.sub_zero, true_or], by simp +contextual (maxSteps := 2000000) (disch := ((try unfold LIM at *); omega)) only [↓bcase_true, ↓bcase_false, WA, simprocAttr, wrap_i64]⟩ ?_
  intro i p1
  by_cases c2 : (i : Int) < l.length
  · obtain ⟨f, hf⟩ := get_lt c2
    have pi : (0 : Int) ≤ i := by omega
    obtain ⟨k, hk⟩ : ∃ k, l.length - i = k + 1 := ⟨l.length - i - 1, by omega⟩
    have hl1 : ((l.take i).map oV).length = i := by simp; omega
    have g1 : ((l.take i).map oV ++ List.replicate (l.length - i) [V.s (.int .i64 0), .s (.string ⟨#[]⟩), .s (.string ⟨#[]⟩)])[i]? = some [V.s (.int .i64 0), .s (.string ⟨#[]⟩), .s (.string ⟨#[]⟩)] := by rw [fill_get _ _ hl1, hk]; rfl
    have g2 : ((l.take i).map oV ++ List.replicate (l.length - i) [V.s (.int .i64 0), .s (.string ⟨#[]⟩), .s (.string ⟨#[]⟩)]).set i [V.s (.int .i64 f.1), .s (.string f.2.1), .s (.string f.2.2)] = (l.take (i + 1)).map oV ++ List.replicate (l.length - (i + 1)) [V.s (.int .i64 0), .s (.string ⟨#[]⟩), .s (.string ⟨#[]⟩)] := by
      rw [hk, fill_set _ _ _ _ _ hl1, List.take_add_one, hf, show l.length - (i + 1) = k by omega]; simp [oV]
    simp +contextual (maxSteps := 2000000) (disch := ((try unfold LIM at *); omega)) only [↓bcase_true, ↓bcase_false, WA, simprocAttr, wrap_i64, List.length_map, hl', c2, hf, pi, oV]
    refine CallThen.pure (walk58 f) 1000 ?_
    simp +contextual (maxSteps := 2000000) (disch := ((try unfold LIM at *); omega)) only [↓bcase_true, ↓bcase_false, WA, simprocAttr, wrap_i64, List.length_map, c2, pi, oV, g1, g2, cast_succ]
    refine ⟨i + 1, ⟨by omega, by omega⟩, [0], by simp, by simp +contextual (maxSteps := 2000000) (disch := ((try unfold LIM at *); omega)) only [↓bcase_true, ↓bcase_false, WA, simprocAttr, wrap_i64, nrs_append, z1, nrs_map oV_nr, true_or, g2, oV], by simp +contextual (maxSteps := 2000000) (disch := ((try unfold LIM at *); omega)) only [↓bcase_true, ↓bcase_false, WA, simprocAttr, wrap_i64]⟩
  · have e : i = l.length := by omega
    subst e
    have g4 : (l.take l.length).map oV ++ List.replicate (l.length - l.length) [V.s (.int .i64 0), .s (.string ⟨#[]⟩), .s (.string ⟨#[]⟩)] = l.map oV := by simp
    simp +contextual (maxSteps := 2000000) (disch := ((try unfold LIM at *); omega)) only [↓bcase_true, ↓bcase_false, WA, simprocAttr, wrap_i64, List.length_map, hl', c2, g4]
    exact Up.fresh (b := 0) rfl (nrs_map oV_nr _) ⟨l.length, Nat.le_refl _, rfl, rfl⟩
end Go.Proofs.Ytpcgnmoogjahbaa
