/- What functions of the program answer, walked on the abstract layer, and closed facts of the program; the conditions stand in each theorem. -/
import Derived.Test.YtijefmjfdhfjmaaDoorG5
import Derived.Test.YtijefmjfdhfjmaaDoorRows
import Derived.WalkKit
import Derived.ProofKit
import Derived.OpenShut
import Derived.ShutString
import Derived.ChangeOld
import Derived.Below
import Derived.SizedLaws
import Derived.LaidMore
import Derived.ChangeVars
/- part S24 -/
set_option linter.unusedVariables false
set_option linter.unusedSimpArgs false
set_option maxRecDepth 100000
namespace Go.Proofs.YtijefmjfdhfjmaaDoor
open Go Go.W Go.RowKit
/-! ### The law's own functions: sizes -/
def lenL {α : Type} (l : List α) (left : Int) : Int := if left - l.length < 0 then -1 else left - l.length
theorem lenL_range {α : Type} (l : List α) (left : Int) (h0 : 0 ≤ left) (h1 : left ≤ 1048576) : -1 ≤ lenL l left ∧ lenL l left ≤ left := by
  unfold lenL; split <;> omega
def kbud {α : Type} (sz : α → Int → Int) : List α → Int → Int
  | [], left => left
  | a :: r, left => if sz a left < 0 then -1 else kbud sz r (sz a left)
def kszS {α : Type} (sz : α → Int → Int) (l : List α) (left : Int) : Int := if left - l.length < 0 then -1 else kbud sz l (left - l.length)
theorem kbud_range {α : Type} {sz : α → Int → Int} (hr : ∀ f left, 0 ≤ left → left ≤ 1048576 → -1 ≤ sz f left ∧ sz f left ≤ left) : ∀ (l : List α) (left : Int), 0 ≤ left → left ≤ 1048576 → -1 ≤ kbud sz l left ∧ kbud sz l left ≤ left
  | [], left, h0, h1 => by rw [kbud]; omega
  | a :: r, left, h0, h1 => by
    have := hr a left h0 h1
    rw [kbud]; split
    · omega
    · have := kbud_range hr r (sz a left) (by omega) (by omega); omega
theorem kszS_range {α : Type} {sz : α → Int → Int} (hr : ∀ f left, 0 ≤ left → left ≤ 1048576 → -1 ≤ sz f left ∧ sz f left ≤ left) (l : List α) (left : Int) (h0 : 0 ≤ left) (h1 : left ≤ 1048576) : -1 ≤ kszS sz l left ∧ kszS sz l left ≤ left := by
  unfold kszS; split
  · omega
  · have := kbud_range hr l (left - l.length) (by omega) (by omega); omega
theorem walk18 (l : List Int) (left : Int) (h0 : 0 ≤ left) (h1 : left ≤ 1048576) : PureV C 18 [.f 1 (l.map iV), .s (.int .i64 left)] (.s (.int .i64 (lenL l left))) := by
  refine pure_of_run Tryd.func18 rfl (by kernel_rfl) (by kernel_rfl) (by simp) (fun _ => rfl) (fun _ => rfl) 6 1000 ?_
  by_cases c : left - (l.length : Int) < 0 <;> simp +contextual (maxSteps := 2000000) (disch := ((try unfold LIM at *); omega)) only [↓bcase_true, ↓bcase_false, WA, simprocAttr, wrap_i64, lenL, List.length_map, c] <;> (try (intros; omega))
theorem walk50 (l : List Ins) (left : Int) (h0 : 0 ≤ left) (h1 : left ≤ 1048576) : PureV C 50 [.f 2 (l.map insV), .s (.int .i64 left)] (.s (.int .i64 (lenL l left))) := by
  refine pure_of_run Tryd.func50 rfl (by kernel_rfl) (by kernel_rfl) (by simp) (fun _ => rfl) (fun _ => rfl) 6 1000 ?_
  by_cases c : left - (l.length : Int) < 0 <;> simp +contextual (maxSteps := 2000000) (disch := ((try unfold LIM at *); omega)) only [↓bcase_true, ↓bcase_false, WA, simprocAttr, wrap_i64, lenL, List.length_map, c] <;> (try (intros; omega))
def szFn (f : IFun) (left : Int) : Int :=
  if left - f.mod.size < 0 then -1 else if left - f.mod.size - f.name.size < 0 then -1 else
  if lenL f.args (left - f.mod.size - f.name.size) < 0 then -1 else lenL f.code (lenL f.args (left - f.mod.size - f.name.size))
theorem szFn_range (f : IFun) (left : Int) (h0 : 0 ≤ left) (h1 : left ≤ 1048576) : -1 ≤ szFn f left ∧ szFn f left ≤ left := by
  unfold szFn
  split
  · omega
  split
  · omega
  have := lenL_range f.args (left - f.mod.size - f.name.size) (by omega) (by omega)
  split
  · omega
  have := lenL_range f.code (lenL f.args (left - f.mod.size - f.name.size)) (by omega) (by omega)
  omega
theorem walk31 (f : IFun) (left : Int) (h0 : 0 ≤ left) (h1 : left ≤ 1048576) : PureV C 31 [.agg (fnV f), .s (.int .i64 left)] (.s (.int .i64 (szFn f left))) := by
  refine pure_of_run Tryd.func31 rfl (by kernel_rfl) (by kernel_rfl) (by simp) (fun _ => rfl) (fun _ => rfl) 6 1000 ?_
  by_cases c1 : left - (f.mod.size : Int) < 0
  · simp +contextual (maxSteps := 2000000) (disch := ((try unfold LIM at *); omega)) only [↓bcase_true, ↓bcase_false, WA, simprocAttr, wrap_i64, fnV, szFn, c1]
    try (intros; omega)
  by_cases c2 : left - (f.mod.size : Int) - f.name.size < 0
  · simp +contextual (maxSteps := 2000000) (disch := ((try unfold LIM at *); omega)) only [↓bcase_true, ↓bcase_false, WA, simprocAttr, wrap_i64, fnV, szFn, c1, c2]
    try (intros; omega)
  simp +contextual (maxSteps := 2000000) (disch := ((try unfold LIM at *); omega)) only [↓bcase_true, ↓bcase_false, WA, simprocAttr, wrap_i64, fnV, szFn, c1, c2]
  intro q1 q2
  refine CallThen.pure (walk18 f.args _ (by omega) (by omega)) 1000 ?_
  have hr := lenL_range f.args (left - f.mod.size - f.name.size) (by omega) (by omega)
  generalize lenL f.args (left - f.mod.size - f.name.size) = e at *
  by_cases c3 : e < 0
  · simp +contextual (maxSteps := 2000000) (disch := ((try unfold LIM at *); omega)) only [↓bcase_true, ↓bcase_false, WA, simprocAttr, wrap_i64, c3]
  simp +contextual (maxSteps := 2000000) (disch := ((try unfold LIM at *); omega)) only [↓bcase_true, ↓bcase_false, WA, simprocAttr, wrap_i64, c3]
  refine CallThen.pure (walk50 f.code _ (by omega) (by omega)) 1000 ?_
  have hr2 := lenL_range f.code e (by omega) (by omega)
  generalize lenL f.code e = e2 at *
  by_cases c4 : e2 < 0
  · have : e2 = -1 := by omega
    simp +contextual (maxSteps := 2000000) (disch := ((try unfold LIM at *); omega)) only [↓bcase_true, ↓bcase_false, WA, simprocAttr, wrap_i64, c4, this]
  · simp +contextual (maxSteps := 2000000) (disch := ((try unfold LIM at *); omega)) only [↓bcase_true, ↓bcase_false, WA, simprocAttr, wrap_i64, c4]
theorem walk17 (l : List IFun) (left : Int) (h0 : 0 ≤ left) (h1 : left ≤ 1048576) : PureV C 17 [.f 6 (l.map fnV), .s (.int .i64 left)] (.s (.int .i64 (kszS szFn l left))) := by
  refine pure_of_run Tryd.func17 rfl (by kernel_rfl) (by kernel_rfl) (by simp) (fun _ => rfl) (fun _ => rfl) 6 1000 ?_
  simp +contextual (maxSteps := 2000000) (disch := ((try unfold LIM at *); omega)) only [↓bcase_true, ↓bcase_false, WA, simprocAttr, wrap_i64, kszS, List.length_map]
  intro hl hc
  refine LoopThen.pure (ι := Nat × Int) (fun p => p.1 ≤ l.length ∧ 0 ≤ p.2 ∧ p.2 ≤ 1048576 ∧ kbud szFn (l.drop p.1) p.2 = kbud szFn l (left - l.length)) (fun p => keepL [(0, .f 6 (l.map fnV)), (1, .s (.int .i64 p.2)), (5, .s (.int .i64 p.1))]) (fun p => l.length - p.1)
    6 [0, 1, 5] 1000 1000 ⟨(0, left - l.length), ⟨by omega, by omega, by omega, rfl⟩, by simp +contextual (maxSteps := 2000000) (disch := ((try unfold LIM at *); omega)) only [↓bcase_true, ↓bcase_false, WA, simprocAttr, wrap_i64]⟩ ?_
  rintro ⟨i, a⟩ ⟨p1, p2, p3, p4⟩
  by_cases c2 : (i : Int) < l.length
  · obtain ⟨f, hf⟩ := get_lt c2
    have pi : (0 : Int) ≤ i := by omega
    simp +contextual (maxSteps := 2000000) (disch := ((try unfold LIM at *); omega)) only [↓bcase_true, ↓bcase_false, WA, simprocAttr, wrap_i64, List.length_map, hl, c2, hf, pi, fnV]
    refine CallThen.pure (walk31 f a p2 p3) 1000 ?_
    have hr := szFn_range f a p2 p3
    have key : kbud szFn l (left - l.length) = if szFn f a < 0 then -1 else kbud szFn (l.drop (i + 1)) (szFn f a) := by rw [← p4]; simp only [drop_cons hf, kbud]
    by_cases c3 : szFn f a < 0
    · simp +contextual (maxSteps := 2000000) (disch := ((try unfold LIM at *); omega)) only [↓bcase_true, ↓bcase_false, WA, simprocAttr, wrap_i64, List.length_map, c3, key]
    · simp +contextual (maxSteps := 2000000) (disch := ((try unfold LIM at *); omega)) only [↓bcase_true, ↓bcase_false, WA, simprocAttr, wrap_i64, List.length_map, c3, cast_succ]
      refine ⟨(i + 1, szFn f a), ⟨⟨by omega, by omega, by omega, ?_⟩, by omega⟩, rfl⟩
      simp only [key, c3, if_false]
  · have e : i = l.length := by simp at p1; omega
    subst e
    simp +contextual (maxSteps := 2000000) (disch := ((try unfold LIM at *); omega)) only [↓bcase_true, ↓bcase_false, WA, simprocAttr, wrap_i64, List.length_map, hl, c2, ← p4, List.drop_length, kbud]
def szImg (m : Img) (left : Int) : Int := if kszS szFn m.funs left < 0 then -1 else lenL m.mains (kszS szFn m.funs left)
theorem walk5 (m : Img) (left : Int) (h0 : 0 ≤ left) (h1 : left ≤ 1048576) : PureV C 5 [.agg (imgV m), .s (.int .i64 left)] (.s (.int .i64 (szImg m left))) := by
  refine pure_of_run Tryd.func5 rfl (by kernel_rfl) (by kernel_rfl) (by simp) (fun _ => rfl) (fun _ => rfl) 6 1000 ?_
  have r := kszS_range szFn_range m.funs left h0 h1
  simp +contextual (maxSteps := 2000000) (disch := ((try unfold LIM at *); omega)) only [↓bcase_true, ↓bcase_false, WA, simprocAttr, wrap_i64, imgV]
  refine CallThen.pure (walk17 m.funs left h0 h1) 1000 ?_
  unfold szImg
  generalize kszS szFn m.funs left = e at *
  by_cases c : e < 0
  · simp +contextual (maxSteps := 2000000) (disch := ((try unfold LIM at *); omega)) only [↓bcase_true, ↓bcase_false, WA, simprocAttr, wrap_i64, c]
  · simp +contextual (maxSteps := 2000000) (disch := ((try unfold LIM at *); omega)) only [↓bcase_true, ↓bcase_false, WA, simprocAttr, wrap_i64, c]
    refine CallThen.pure (walk18 m.mains _ (by omega) (by omega)) 1000 ?_
    have r2 := lenL_range m.mains e (by omega) (by omega)
    generalize lenL m.mains e = e2 at *
    by_cases c4 : e2 < 0
    · have : e2 = -1 := by omega
      simp +contextual (maxSteps := 2000000) (disch := ((try unfold LIM at *); omega)) only [↓bcase_true, ↓bcase_false, WA, simprocAttr, wrap_i64, c4, this]
    · simp +contextual (maxSteps := 2000000) (disch := ((try unfold LIM at *); omega)) only [↓bcase_true, ↓bcase_false, WA, simprocAttr, wrap_i64, c4]
/-- What is in hand, once the size is. -/
theorem kbud_len {l : List IFun} : ∀ {left : Int}, 0 ≤ kbud szFn l left → 0 ≤ left → left ≤ 1048576 → (sizeN l : Int) ≤ left ∧ ∀ f ∈ l, f.args.length ≤ 1048576 ∧ f.code.length ≤ 1048576 := by
  induction l with
  | nil => intro left h h0 h1; exact ⟨by simp [sizeN]; omega, fun f hf => by simp at hf⟩
  | cons f r ih =>
    intro left h h0 h1
    rw [kbud] at h
    split at h
    · omega
    rename_i hs
    have hr := szFn_range f left h0 h1
    obtain ⟨i1, i2⟩ := ih h (by omega) (by omega)
    have key : (f.args.length : Int) + f.code.length + szFn f left ≤ left := by
      unfold szFn at hs ⊢
      split
      · rename_i h1; rw [if_pos h1] at hs; omega
      rename_i h1
      rw [if_neg h1] at hs
      split
      · rename_i h2; rw [if_pos h2] at hs; omega
      rename_i h2
      rw [if_neg h2] at hs
      split
      · rename_i h3; rw [if_pos h3] at hs; omega
      rename_i h3
      rw [if_neg h3] at hs
      unfold lenL at hs h3 ⊢
      split at h3
      · omega
      rename_i h4
      rw [if_neg h4] at hs ⊢
      split at hs
      · omega
      rename_i h5
      rw [if_neg h5]
      omega
    refine ⟨by simp only [sizeN]; omega, fun g hg => ?_⟩
    rcases List.mem_cons.1 hg with e | e
    · subst e; omega
    · exact i2 g e
theorem szImg_len {m : Img} (h : ¬ szImg m 1048576 < 0) : m.funs.length ≤ 1048576 ∧ m.mains.length ≤ 1048576 ∧ sizeN m.funs ≤ 1048576 ∧ ∀ f ∈ m.funs, f.args.length ≤ 1048576 ∧ f.code.length ≤ 1048576 := by
  unfold szImg at h
  have r := kszS_range szFn_range m.funs 1048576 (by decide) (by decide)
  split at h
  · omega
  rename_i h1
  have hm : (m.mains.length : Int) ≤ 1048576 := by
    unfold lenL at h; split at h <;> omega
  unfold kszS at h1
  split at h1
  · omega
  rename_i h2
  obtain ⟨k1, k2⟩ := kbud_len (l := m.funs) (left := 1048576 - m.funs.length) (by omega) (by omega) (by omega)
  exact ⟨by omega, by omega, by omega, k2⟩
/-! ### Copies -/
theorem walk22 (l : List Int) (hl : l.length ≤ 1048576) : PureV C 22 [.f 1 (l.map iV)] (.f 1 (l.map iV)) := by
  refine pure_of_run Tryd.func22 rfl (by kernel_rfl) (by kernel_rfl) (by simp) (fun _ => rfl) (fun _ => rfl) 6 1000 ?_
  have z1 := fun n => nrs_replicate (el := [V.s (.int .i64 0)]) rfl n
  have b0 : (0 : Int) ≤ l.length := by omega
  have b1 : (8 : Int) * l.length ≤ 140737488355328 := by omega
  have b2 : (l.length : Int) ≤ 4611686018427387904 := by omega
  simp +contextual (maxSteps := 2000000) (disch := ((try unfold LIM at *); omega)) only [↓bcase_true, ↓bcase_false, WA, simprocAttr, wrap_i64, List.length_map, b0, b1, b2, Int.le_refl]
  intro hl'
  refine LoopThen.own (ι := Nat) (fun i => i ≤ l.length) (fun i => [(0, .f 1 (l.map iV)), (3, .sl 0 0 l.length l.length), (4, .s (.int .i64 i))]) (fun i => [⟨(l.take i).map iV ++ List.replicate (l.length - i) [V.s (.int .i64 0)], 1, l.length, true⟩]) (fun i => l.length - i)
    1000 1000 ⟨0, Nat.zero_le _, [0], by simp, by simp +contextual (maxSteps := 2000000) (disch := ((try unfold LIM at *); omega)) only [↓bcase_true, ↓bcase_false, WA, simprocAttr, wrap_i64, z1, Nat.sub_zero, true_or], by simp +contextual (maxSteps := 2000000) (disch := ((try unfold LIM at *); omega)) only [↓bcase_true, ↓bcase_false, WA, simprocAttr, wrap_i64]⟩ ?_
  intro i p1
  by_cases c2 : (i : Int) < l.length
  · obtain ⟨f, hf⟩ := get_lt c2
    have pi : (0 : Int) ≤ i := by omega
    obtain ⟨k, hk⟩ : ∃ k, l.length - i = k + 1 := ⟨l.length - i - 1, by omega⟩
    have hl1 : ((l.take i).map iV).length = i := by simp; omega
    have g1 : ((l.take i).map iV ++ List.replicate (l.length - i) [V.s (.int .i64 0)])[i]? = some [V.s (.int .i64 0)] := by rw [fill_get _ _ hl1, hk]; rfl
    have g2 : ((l.take i).map iV ++ List.replicate (l.length - i) [V.s (.int .i64 0)]).set i (iV f) = (l.take (i + 1)).map iV ++ List.replicate (l.length - (i + 1)) [V.s (.int .i64 0)] := by
      rw [hk, fill_set _ _ _ _ _ hl1, List.take_add_one, hf, show l.length - (i + 1) = k by omega]; simp
    have g3 : nrs ((l.take (i + 1)).map iV ++ List.replicate (l.length - (i + 1)) [V.s (.int .i64 0)]) = true := by rw [nrs_append, nrs_map (fun _ => rfl), z1]; rfl
    simp +contextual (maxSteps := 2000000) (disch := ((try unfold LIM at *); omega)) only [↓bcase_true, ↓bcase_false, WA, simprocAttr, wrap_i64, List.length_map, hl', c2, hf, pi, iV, g1]
    simp only [iV] at g2 g3
    simp +contextual (maxSteps := 2000000) (disch := ((try unfold LIM at *); omega)) only [↓bcase_true, ↓bcase_false, WA, simprocAttr, wrap_i64, iV, g1, g2, List.length_map, pi, c2, cast_succ]
    exact ⟨i + 1, ⟨by omega, by omega⟩, [0], by simp, ⟨.inl ⟨g3, rfl⟩, trivial⟩, by simp +contextual (maxSteps := 2000000) (disch := ((try unfold LIM at *); omega)) only [↓bcase_true, ↓bcase_false, WA, simprocAttr, wrap_i64, nm_at]⟩
  · have e : i = l.length := by omega
    subst e
    have g4 : (l.take l.length).map iV ++ List.replicate (l.length - l.length) [V.s (.int .i64 0)] = l.map iV := by simp
    have g5 : ((l.map iV).map fun el => el.map (frz 0 5 [⟨l.map iV, 1, l.length, true⟩])) = l.map iV := frz_els (nrs_map (fun _ => rfl) l) (leafs_map (fun _ => rfl) l)
    have g6 : (l.map iV).take l.length = l.map iV := List.take_of_length_le (by simp)
    simp +contextual (maxSteps := 2000000) (disch := ((try unfold LIM at *); omega)) only [↓bcase_true, ↓bcase_false, WA, simprocAttr, wrap_i64, List.length_map, hl', c2, g4, g5, g6]
theorem walk80 (x : Ins) : PureV C 80 [.agg (insV x)] (.agg (insV x)) := by
  refine pure_of_run Tryd.func80 rfl (by kernel_rfl) (by kernel_rfl) (by simp) (fun _ => rfl) (fun _ => rfl) 6 1000 ?_
  simp +contextual (maxSteps := 2000000) (disch := ((try unfold LIM at *); omega)) only [↓bcase_true, ↓bcase_false, WA, simprocAttr, wrap_i64, insV]
theorem walk63 (l : List Ins) (hl : l.length ≤ 1048576) : PureV C 63 [.f 2 (l.map insV)] (.f 2 (l.map insV)) := by
  refine pure_of_run Tryd.func63 rfl (by kernel_rfl) (by kernel_rfl) (by simp) (fun _ => rfl) (fun _ => rfl) 6 1000 ?_
  have z1 := fun n => nrs_replicate (el := [V.s (.int .i64 0), .s (.int .i64 0)]) rfl n
  have b0 : (0 : Int) ≤ l.length := by omega
  have b1 : (16 : Int) * l.length ≤ 140737488355328 := by omega
  have b2 : (l.length : Int) ≤ 4611686018427387904 := by omega
  simp +contextual (maxSteps := 2000000) (disch := ((try unfold LIM at *); omega)) only [↓bcase_true, ↓bcase_false, WA, simprocAttr, wrap_i64, List.length_map, b0, b1, b2, Int.le_refl]
  intro hl'
  refine LoopThen.own (ι := Nat) (fun i => i ≤ l.length) (fun i => [(0, .f 2 (l.map insV)), (3, .sl 0 0 l.length l.length), (4, .s (.int .i64 i))]) (fun i => [⟨(l.take i).map insV ++ List.replicate (l.length - i) [V.s (.int .i64 0), .s (.int .i64 0)], 2, l.length, true⟩]) (fun i => l.length - i)
    1000 1000 ⟨0, Nat.zero_le _, [0], by simp, by simp +contextual (maxSteps := 2000000) (disch := ((try unfold LIM at *); omega)) only [↓bcase_true, ↓bcase_false, WA, simprocAttr, wrap_i64, z1, Nat.sub_zero, true_or], by simp +contextual (maxSteps := 2000000) (disch := ((try unfold LIM at *); omega)) only [↓bcase_true, ↓bcase_false, WA, simprocAttr, wrap_i64]⟩ ?_
  intro i p1
  by_cases c2 : (i : Int) < l.length
  · obtain ⟨f, hf⟩ := get_lt c2
    have pi : (0 : Int) ≤ i := by omega
    obtain ⟨k, hk⟩ : ∃ k, l.length - i = k + 1 := ⟨l.length - i - 1, by omega⟩
    have hl1 : ((l.take i).map insV).length = i := by simp; omega
    have g1 : ((l.take i).map insV ++ List.replicate (l.length - i) [V.s (.int .i64 0), .s (.int .i64 0)])[i]? = some [V.s (.int .i64 0), .s (.int .i64 0)] := by rw [fill_get _ _ hl1, hk]; rfl
    have g2 : ((l.take i).map insV ++ List.replicate (l.length - i) [V.s (.int .i64 0), .s (.int .i64 0)]).set i (insV f) = (l.take (i + 1)).map insV ++ List.replicate (l.length - (i + 1)) [V.s (.int .i64 0), .s (.int .i64 0)] := by
      rw [hk, fill_set _ _ _ _ _ hl1, List.take_add_one, hf, show l.length - (i + 1) = k by omega]; simp
    have g3 : nrs ((l.take (i + 1)).map insV ++ List.replicate (l.length - (i + 1)) [V.s (.int .i64 0), .s (.int .i64 0)]) = true := by rw [nrs_append, nrs_map (fun _ => rfl), z1]; rfl
    simp +contextual (maxSteps := 2000000) (disch := ((try unfold LIM at *); omega)) only [↓bcase_true, ↓bcase_false, WA, simprocAttr, wrap_i64, List.length_map, hl', c2, hf, pi, insV, g1]
    refine CallThen.pure (walk80 f) 1000 ?_
    simp only [insV] at g2 g3
    simp +contextual (maxSteps := 2000000) (disch := ((try unfold LIM at *); omega)) only [↓bcase_true, ↓bcase_false, WA, simprocAttr, wrap_i64, insV, g1, g2, List.length_map, pi, c2, cast_succ]
    exact ⟨i + 1, ⟨by omega, by omega⟩, [0], by simp, ⟨.inl ⟨g3, rfl⟩, trivial⟩, by simp +contextual (maxSteps := 2000000) (disch := ((try unfold LIM at *); omega)) only [↓bcase_true, ↓bcase_false, WA, simprocAttr, wrap_i64, nm_at]⟩
  · have e : i = l.length := by omega
    subst e
    have g4 : (l.take l.length).map insV ++ List.replicate (l.length - l.length) [V.s (.int .i64 0), .s (.int .i64 0)] = l.map insV := by simp
    have g5 : ((l.map insV).map fun el => el.map (frz 0 5 [⟨l.map insV, 2, l.length, true⟩])) = l.map insV := frz_els (nrs_map (fun _ => rfl) l) (leafs_map (fun _ => rfl) l)
    have g6 : (l.map insV).take l.length = l.map insV := List.take_of_length_le (by simp)
    simp +contextual (maxSteps := 2000000) (disch := ((try unfold LIM at *); omega)) only [↓bcase_true, ↓bcase_false, WA, simprocAttr, wrap_i64, List.length_map, hl', c2, g4, g5, g6]
theorem walk36 (f : IFun) (h1 : f.args.length ≤ 1048576) (h2 : f.code.length ≤ 1048576) : PureV C 36 [.agg (fnV f)] (.agg (fnV f)) := by
  refine pure_of_run Tryd.func36 rfl (by kernel_rfl) (by kernel_rfl) (by simp) (fun _ => rfl) (fun _ => rfl) 6 1000 ?_
  simp +contextual (maxSteps := 2000000) (disch := ((try unfold LIM at *); omega)) only [↓bcase_true, ↓bcase_false, WA, simprocAttr, wrap_i64, fnV]
  refine CallThen.pure (walk22 f.args h1) 1000 ?_
  simp +contextual (maxSteps := 2000000) (disch := ((try unfold LIM at *); omega)) only [↓bcase_true, ↓bcase_false, WA, simprocAttr, wrap_i64]
  refine CallThen.pure (walk63 f.code h2) 1000 ?_
  simp +contextual (maxSteps := 2000000) (disch := ((try unfold LIM at *); omega)) only [↓bcase_true, ↓bcase_false, WA, simprocAttr, wrap_i64]
theorem walk21 (l : List IFun) (hl : l.length ≤ 1048576) (hf2 : ∀ f ∈ l, f.args.length ≤ 1048576 ∧ f.code.length ≤ 1048576) : PureV C 21 [.f 6 (l.map fnV)] (.f 6 (l.map fnV)) := by
  refine pure_of_run Tryd.func21 rfl (by kernel_rfl) (by kernel_rfl) (by simp) (fun _ => rfl) (fun _ => rfl) 6 1000 ?_
  have z1 := fun n => nrs_replicate (el := [V.s (.string ⟨#[]⟩), .s (.string ⟨#[]⟩), .z, .s (.int .i64 0), .s (.int .i64 0), .z]) rfl n
  have b0 : (0 : Int) ≤ l.length := by omega
  have b1 : (96 : Int) * l.length ≤ 140737488355328 := by omega
  have b2 : (l.length : Int) ≤ 4611686018427387904 := by omega
  simp +contextual (maxSteps := 2000000) (disch := ((try unfold LIM at *); omega)) only [↓bcase_true, ↓bcase_false, WA, simprocAttr, wrap_i64, List.length_map, b0, b1, b2, Int.le_refl]
  intro hl'
  refine LoopThen.own (ι := Nat) (fun i => i ≤ l.length) (fun i => [(0, .f 6 (l.map fnV)), (3, .sl 0 0 l.length l.length), (4, .s (.int .i64 i))]) (fun i => [⟨(l.take i).map fnV ++ List.replicate (l.length - i) [V.s (.string ⟨#[]⟩), .s (.string ⟨#[]⟩), .z, .s (.int .i64 0), .s (.int .i64 0), .z], 6, l.length, true⟩]) (fun i => l.length - i)
    1000 1000 ⟨0, Nat.zero_le _, [0], by simp, by simp +contextual (maxSteps := 2000000) (disch := ((try unfold LIM at *); omega)) only [↓bcase_true, ↓bcase_false, WA, simprocAttr, wrap_i64, z1, Nat.sub_zero, true_or], by simp +contextual (maxSteps := 2000000) (disch := ((try unfold LIM at *); omega)) only [↓bcase_true, ↓bcase_false, WA, simprocAttr, wrap_i64]⟩ ?_
  intro i p1
  by_cases c2 : (i : Int) < l.length
  · obtain ⟨f, hf⟩ := get_lt c2
    have pi : (0 : Int) ≤ i := by omega
    obtain ⟨k, hk⟩ : ∃ k, l.length - i = k + 1 := ⟨l.length - i - 1, by omega⟩
    have hl1 : ((l.take i).map fnV).length = i := by simp; omega
    have g1 : ((l.take i).map fnV ++ List.replicate (l.length - i) [V.s (.string ⟨#[]⟩), .s (.string ⟨#[]⟩), .z, .s (.int .i64 0), .s (.int .i64 0), .z])[i]? = some [V.s (.string ⟨#[]⟩), .s (.string ⟨#[]⟩), .z, .s (.int .i64 0), .s (.int .i64 0), .z] := by rw [fill_get _ _ hl1, hk]; rfl
    have g2 : ((l.take i).map fnV ++ List.replicate (l.length - i) [V.s (.string ⟨#[]⟩), .s (.string ⟨#[]⟩), .z, .s (.int .i64 0), .s (.int .i64 0), .z]).set i (fnV f) = (l.take (i + 1)).map fnV ++ List.replicate (l.length - (i + 1)) [V.s (.string ⟨#[]⟩), .s (.string ⟨#[]⟩), .z, .s (.int .i64 0), .s (.int .i64 0), .z] := by
      rw [hk, fill_set _ _ _ _ _ hl1, List.take_add_one, hf, show l.length - (i + 1) = k by omega]; simp
    have g3 : nrs ((l.take (i + 1)).map fnV ++ List.replicate (l.length - (i + 1)) [V.s (.string ⟨#[]⟩), .s (.string ⟨#[]⟩), .z, .s (.int .i64 0), .s (.int .i64 0), .z]) = true := by rw [nrs_append, nrs_map (fun _ => rfl), z1]; rfl
    simp +contextual (maxSteps := 2000000) (disch := ((try unfold LIM at *); omega)) only [↓bcase_true, ↓bcase_false, WA, simprocAttr, wrap_i64, List.length_map, hl', c2, hf, pi, fnV, g1]
    have hff := hf2 f (List.mem_of_getElem? hf)
    refine CallThen.pure (walk36 f hff.1 hff.2) 1000 ?_
    simp only [fnV] at g2 g3
    simp +contextual (maxSteps := 2000000) (disch := ((try unfold LIM at *); omega)) only [↓bcase_true, ↓bcase_false, WA, simprocAttr, wrap_i64, fnV, g1, g2, List.length_map, pi, c2, cast_succ]
    exact ⟨i + 1, ⟨by omega, by omega⟩, [0], by simp, ⟨.inl ⟨g3, rfl⟩, trivial⟩, by simp +contextual (maxSteps := 2000000) (disch := ((try unfold LIM at *); omega)) only [↓bcase_true, ↓bcase_false, WA, simprocAttr, wrap_i64, nm_at]⟩
  · have e : i = l.length := by omega
    subst e
    have g4 : (l.take l.length).map fnV ++ List.replicate (l.length - l.length) [V.s (.string ⟨#[]⟩), .s (.string ⟨#[]⟩), .z, .s (.int .i64 0), .s (.int .i64 0), .z] = l.map fnV := by simp
    have g5 : ((l.map fnV).map fun el => el.map (frz 0 5 [⟨l.map fnV, 6, l.length, true⟩])) = l.map fnV := frz_els (nrs_map (fun _ => rfl) l) (leafs_map (fun _ => rfl) l)
    have g6 : (l.map fnV).take l.length = l.map fnV := List.take_of_length_le (by simp)
    simp +contextual (maxSteps := 2000000) (disch := ((try unfold LIM at *); omega)) only [↓bcase_true, ↓bcase_false, WA, simprocAttr, wrap_i64, List.length_map, hl', c2, g4, g5, g6]
theorem walk7 (m : Img) (h1 : m.funs.length ≤ 1048576) (h2 : m.mains.length ≤ 1048576) (h3 : ∀ f ∈ m.funs, f.args.length ≤ 1048576 ∧ f.code.length ≤ 1048576) : PureV C 7 [.agg (imgV m)] (.agg (imgV m)) := by
  refine pure_of_run Tryd.func7 rfl (by kernel_rfl) (by kernel_rfl) (by simp) (fun _ => rfl) (fun _ => rfl) 6 1000 ?_
  simp +contextual (maxSteps := 2000000) (disch := ((try unfold LIM at *); omega)) only [↓bcase_true, ↓bcase_false, WA, simprocAttr, wrap_i64, imgV]
  refine CallThen.pure (walk21 m.funs h1 h3) 1000 ?_
  simp +contextual (maxSteps := 2000000) (disch := ((try unfold LIM at *); omega)) only [↓bcase_true, ↓bcase_false, WA, simprocAttr, wrap_i64]
  refine CallThen.pure (walk22 m.mains h2) 1000 ?_
  simp +contextual (maxSteps := 2000000) (disch := ((try unfold LIM at *); omega)) only [↓bcase_true, ↓bcase_false, WA, simprocAttr, wrap_i64]
end Go.Proofs.YtijefmjfdhfjmaaDoor
/- part S25 -/
set_option linter.unusedVariables false
set_option linter.unusedSimpArgs false
set_option maxRecDepth 100000
namespace Go.Proofs.YtijefmjfdhfjmaaDoor
open Go Go.W Go.RowKit
/-! ### Equality: of a thing with itself -/
theorem walk26 (l : List Int) : PureV C 26 [.f 1 (l.map iV), .f 1 (l.map iV)] (.s (.bool true)) := by
  refine pure_of_run Tryd.func26 rfl (by kernel_rfl) (by kernel_rfl) (by simp) (fun _ => rfl) (fun _ => rfl) 6 1000 ?_
  simp +contextual (maxSteps := 2000000) (disch := ((try unfold LIM at *); omega)) only [↓bcase_true, ↓bcase_false, WA, simprocAttr, wrap_i64, List.length_map]
  intro _
  refine LoopThen.pure (ι := Nat) (fun i => i ≤ l.length) (fun i => keepL [(0, .f 1 (l.map iV)), (1, .f 1 (l.map iV)), (5, .s (.int .i64 i))]) (fun i => l.length - i)
    6 [0, 1, 5] 1000 1000 ⟨0, by omega, by simp +contextual (maxSteps := 2000000) (disch := ((try unfold LIM at *); omega)) only [↓bcase_true, ↓bcase_false, WA, simprocAttr, wrap_i64]⟩ ?_
  intro i p1
  by_cases c2 : (i : Int) < l.length
  · obtain ⟨f, hf⟩ := get_lt c2
    have pi : (0 : Int) ≤ i := by omega
    have hfv : (l.map iV)[i]? = some (iV f) := by rw [List.getElem?_map, hf]; rfl
    simp +contextual (maxSteps := 2000000) (disch := ((try unfold LIM at *); omega)) only [↓bcase_true, ↓bcase_false, WA, simprocAttr, wrap_i64, List.length_map, c2]
    refine fun _ => DrawThen.of 1000 [] (.old 0 (.old 1 (.old 2 (.old 3 (.old 4 (.old 5 (.old 6 (.old 7 (.old 8 .done))))))))) (panFree_loopP (panFree_pure _ _ _)) (by kernel_rfl) (by kernel_rfl) (by kernel_rfl) ?_
    simp +contextual (maxSteps := 2000000) (disch := ((try unfold LIM at *); omega)) only [↓bcase_true, ↓bcase_false, WA, simprocAttr, wrap_i64, List.length_map, c2, hfv, pi, iV, cast_succ]
    exact ⟨i + 1, ⟨by omega, by omega⟩, rfl⟩
  · have e : i = l.length := by omega
    subst e
    simp +contextual (maxSteps := 2000000) (disch := ((try unfold LIM at *); omega)) only [↓bcase_true, ↓bcase_false, WA, simprocAttr, wrap_i64, List.length_map, c2]
theorem walk92 (x : Ins) : PureV C 92 [.agg (insV x), .agg (insV x)] (.s (.bool true)) := by
  refine pure_of_run Tryd.func92 rfl (by kernel_rfl) (by kernel_rfl) (by simp) (fun _ => rfl) (fun _ => rfl) 6 1000 ?_
  simp +contextual (maxSteps := 2000000) (disch := ((try unfold LIM at *); omega)) only [↓bcase_true, ↓bcase_false, WA, simprocAttr, wrap_i64, insV]
theorem walk74 (l : List Ins) : PureV C 74 [.f 2 (l.map insV), .f 2 (l.map insV)] (.s (.bool true)) := by
  refine pure_of_run Tryd.func74 rfl (by kernel_rfl) (by kernel_rfl) (by simp) (fun _ => rfl) (fun _ => rfl) 6 1000 ?_
  simp +contextual (maxSteps := 2000000) (disch := ((try unfold LIM at *); omega)) only [↓bcase_true, ↓bcase_false, WA, simprocAttr, wrap_i64, List.length_map]
  intro _
  refine LoopThen.pure (ι := Nat) (fun i => i ≤ l.length) (fun i => keepL [(0, .f 2 (l.map insV)), (1, .f 2 (l.map insV)), (5, .s (.int .i64 i))]) (fun i => l.length - i)
    6 [0, 1, 5] 1000 1000 ⟨0, by omega, by simp +contextual (maxSteps := 2000000) (disch := ((try unfold LIM at *); omega)) only [↓bcase_true, ↓bcase_false, WA, simprocAttr, wrap_i64]⟩ ?_
  intro i p1
  by_cases c2 : (i : Int) < l.length
  · obtain ⟨f, hf⟩ := get_lt c2
    have pi : (0 : Int) ≤ i := by omega
    have hfv : (l.map insV)[i]? = some (insV f) := by rw [List.getElem?_map, hf]; rfl
    simp +contextual (maxSteps := 2000000) (disch := ((try unfold LIM at *); omega)) only [↓bcase_true, ↓bcase_false, WA, simprocAttr, wrap_i64, List.length_map, c2]
    intro _
    refine DrawThen.of 1000 [] (.old 0 (.old 1 (.old 2 (.old 3 (.old 4 (.old 5 (.old 6 (.old 7 (.go 8 (.new 9 .done)))))))))) (panFree_loopP (panFree_pure _ _ _)) (by kernel_rfl) (by kernel_rfl) (by kernel_rfl) ?_
    simp +contextual (maxSteps := 2000000) (disch := ((try unfold LIM at *); omega)) only [↓bcase_true, ↓bcase_false, WA, simprocAttr, wrap_i64, List.length_map, c2, hfv, pi, insV, cast_succ]
    refine DCall.pure (walk92 f) 1000 (.new 9 .done) (by kernel_rfl) ?_
    simp +contextual (maxSteps := 2000000) (disch := ((try unfold LIM at *); omega)) only [↓bcase_true, ↓bcase_false, WA, simprocAttr, wrap_i64, cast_succ]
    try simp +contextual (maxSteps := 2000000) (disch := ((try unfold LIM at *); omega)) only [↓bcase_true, ↓bcase_false, WA, simprocAttr, wrap_i64, List.length_map, c2, hfv, pi, insV, cast_succ]
    skip
    exact ⟨i + 1, ⟨by omega, by omega⟩, rfl⟩
  · have e : i = l.length := by omega
    subst e
    simp +contextual (maxSteps := 2000000) (disch := ((try unfold LIM at *); omega)) only [↓bcase_true, ↓bcase_false, WA, simprocAttr, wrap_i64, List.length_map, c2]
theorem walk46 (f : IFun) : PureV C 46 [.agg (fnV f), .agg (fnV f)] (.s (.bool true)) := by
  refine pure_of_run Tryd.func46 rfl (by kernel_rfl) (by kernel_rfl) (by simp) (fun _ => rfl) (fun _ => rfl) 6 1000 ?_
  simp +contextual (maxSteps := 2000000) (disch := ((try unfold LIM at *); omega)) only [↓bcase_true, ↓bcase_false, WA, simprocAttr, wrap_i64, fnV]
  refine CallThen.pure (walk26 f.args) 1000 ?_
  simp +contextual (maxSteps := 2000000) (disch := ((try unfold LIM at *); omega)) only [↓bcase_true, ↓bcase_false, WA, simprocAttr, wrap_i64]
  refine CallThen.pure (walk74 f.code) 1000 ?_
  simp +contextual (maxSteps := 2000000) (disch := ((try unfold LIM at *); omega)) only [↓bcase_true, ↓bcase_false, WA, simprocAttr, wrap_i64]
theorem walk25 (l : List IFun) : PureV C 25 [.f 6 (l.map fnV), .f 6 (l.map fnV)] (.s (.bool true)) := by
  refine pure_of_run Tryd.func25 rfl (by kernel_rfl) (by kernel_rfl) (by simp) (fun _ => rfl) (fun _ => rfl) 6 1000 ?_
  simp +contextual (maxSteps := 2000000) (disch := ((try unfold LIM at *); omega)) only [↓bcase_true, ↓bcase_false, WA, simprocAttr, wrap_i64, List.length_map]
  intro _
  refine LoopThen.pure (ι := Nat) (fun i => i ≤ l.length) (fun i => keepL [(0, .f 6 (l.map fnV)), (1, .f 6 (l.map fnV)), (5, .s (.int .i64 i))]) (fun i => l.length - i)
    6 [0, 1, 5] 1000 1000 ⟨0, by omega, by simp +contextual (maxSteps := 2000000) (disch := ((try unfold LIM at *); omega)) only [↓bcase_true, ↓bcase_false, WA, simprocAttr, wrap_i64]⟩ ?_
  intro i p1
  by_cases c2 : (i : Int) < l.length
  · obtain ⟨f, hf⟩ := get_lt c2
    have pi : (0 : Int) ≤ i := by omega
    have hfv : (l.map fnV)[i]? = some (fnV f) := by rw [List.getElem?_map, hf]; rfl
    simp +contextual (maxSteps := 2000000) (disch := ((try unfold LIM at *); omega)) only [↓bcase_true, ↓bcase_false, WA, simprocAttr, wrap_i64, List.length_map, c2]
    intro _
    refine DrawThen.of 1000 [] (.old 0 (.old 1 (.old 2 (.old 3 (.old 4 (.old 5 (.old 6 (.old 7 (.go 8 (.new 9 .done)))))))))) (panFree_loopP (panFree_pure _ _ _)) (by kernel_rfl) (by kernel_rfl) (by kernel_rfl) ?_
    simp +contextual (maxSteps := 2000000) (disch := ((try unfold LIM at *); omega)) only [↓bcase_true, ↓bcase_false, WA, simprocAttr, wrap_i64, List.length_map, c2, hfv, pi, fnV, cast_succ]
    refine DCall.pure (walk46 f) 1000 (.new 9 .done) (by kernel_rfl) ?_
    simp +contextual (maxSteps := 2000000) (disch := ((try unfold LIM at *); omega)) only [↓bcase_true, ↓bcase_false, WA, simprocAttr, wrap_i64, cast_succ]
    try simp +contextual (maxSteps := 2000000) (disch := ((try unfold LIM at *); omega)) only [↓bcase_true, ↓bcase_false, WA, simprocAttr, wrap_i64, List.length_map, c2, hfv, pi, fnV, cast_succ]
    skip
    exact ⟨i + 1, ⟨by omega, by omega⟩, rfl⟩
  · have e : i = l.length := by omega
    subst e
    simp +contextual (maxSteps := 2000000) (disch := ((try unfold LIM at *); omega)) only [↓bcase_true, ↓bcase_false, WA, simprocAttr, wrap_i64, List.length_map, c2]
theorem walk10 (m : Img) : PureV C 10 [.agg (imgV m), .agg (imgV m)] (.s (.bool true)) := by
  refine pure_of_run Tryd.func10 rfl (by kernel_rfl) (by kernel_rfl) (by simp) (fun _ => rfl) (fun _ => rfl) 6 1000 ?_
  simp +contextual (maxSteps := 2000000) (disch := ((try unfold LIM at *); omega)) only [↓bcase_true, ↓bcase_false, WA, simprocAttr, wrap_i64, imgV]
  refine CallThen.pure (walk25 m.funs) 1000 ?_
  simp +contextual (maxSteps := 2000000) (disch := ((try unfold LIM at *); omega)) only [↓bcase_true, ↓bcase_false, WA, simprocAttr, wrap_i64]
  refine CallThen.pure (walk26 m.mains) 1000 ?_
  simp +contextual (maxSteps := 2000000) (disch := ((try unfold LIM at *); omega)) only [↓bcase_true, ↓bcase_false, WA, simprocAttr, wrap_i64]
theorem walk9 (p : Int × Int × Int) : PureV C 9 [fltV p, fltV p] (.s (.bool true)) := by
  refine pure_of_run Tryd.func9 rfl (by kernel_rfl) (by kernel_rfl) (by simp) (fun _ => rfl) (fun _ => rfl) 6 1000 ?_
  simp +contextual (maxSteps := 2000000) (disch := ((try unfold LIM at *); omega)) only [↓bcase_true, ↓bcase_false, WA, simprocAttr, wrap_i64, fltV]
/-! ### The law -/
theorem walk3 (m : Img) : PureV C 3 [.agg (imgV m)] (.s (.bool true)) := by
  refine pure_of_run Tryd.func3 rfl (by kernel_rfl) (by kernel_rfl) (by simp) (fun _ => rfl) (fun _ => rfl) 6 1000 ?_
  simp +contextual (maxSteps := 2000000) (disch := ((try unfold LIM at *); omega)) only [↓bcase_true, ↓bcase_false, WA, simprocAttr, wrap_i64, imgV]
  refine CallThen.pure (walk5 m 1048576 (by decide) (by decide)) 1000 ?_
  by_cases c : szImg m 1048576 < 0
  · simp +contextual (maxSteps := 2000000) (disch := ((try unfold LIM at *); omega)) only [↓bcase_true, ↓bcase_false, WA, simprocAttr, wrap_i64, c]
  obtain ⟨h1, h2, h3, h4⟩ := szImg_len c
  simp +contextual (maxSteps := 2000000) (disch := ((try unfold LIM at *); omega)) only [↓bcase_true, ↓bcase_false, WA, simprocAttr, wrap_i64, c]
  refine CallThen.pure (walk7 m h1 h2 h4) 1000 ?_
  simp +contextual (maxSteps := 2000000) (disch := ((try unfold LIM at *); omega)) only [↓bcase_true, ↓bcase_false, WA, simprocAttr, wrap_i64, imgV]
  refine CallThen.pure (walk6 m h1 h2 h3) 1000 ?_
  simp +contextual (maxSteps := 2000000) (disch := ((try unfold LIM at *); omega)) only [↓bcase_true, ↓bcase_false, WA, simprocAttr, wrap_i64, fltV]
  refine CallThen.pure (walk7 m h1 h2 h4) 1000 ?_
  simp +contextual (maxSteps := 2000000) (disch := ((try unfold LIM at *); omega)) only [↓bcase_true, ↓bcase_false, WA, simprocAttr, wrap_i64, imgV]
  refine CallThen.pure (walk8 m h1 h2 h3) 1000 ?_
  simp +contextual (maxSteps := 2000000) (disch := ((try unfold LIM at *); omega)) only [↓bcase_true, ↓bcase_false, WA, simprocAttr, wrap_i64, fltV]
  refine CallThen.pure (walk9 (sureF m)) 1000 ?_
  simp +contextual (maxSteps := 2000000) (disch := ((try unfold LIM at *); omega)) only [↓bcase_true, ↓bcase_false, WA, simprocAttr, wrap_i64]
  refine DrawThen.of 1000 [] (.old 0 (.old 1 (.go 2 (.go 3 (.new 4 .done))))) (panFree_pure _ _ _) (by kernel_rfl) (by kernel_rfl) (by kernel_rfl) ?_
  simp +contextual (maxSteps := 2000000) (disch := ((try unfold LIM at *); omega)) only [↓bcase_true, ↓bcase_false, WA, simprocAttr, wrap_i64, imgV]
  refine DCall.pure (walk7 m h1 h2 h4) 1000 (.go 3 (.new 4 .done)) (by kernel_rfl) ?_
  simp +contextual (maxSteps := 2000000) (disch := ((try unfold LIM at *); omega)) only [↓bcase_true, ↓bcase_false, WA, simprocAttr, wrap_i64, imgV]
  try simp +contextual (maxSteps := 2000000) (disch := ((try unfold LIM at *); omega)) only [↓bcase_true, ↓bcase_false, WA, simprocAttr, wrap_i64, imgV]
  refine DCall.pure (walk10 m) 1000 (.new 4 .done) (by kernel_rfl) ?_
  simp +contextual (maxSteps := 2000000) (disch := ((try unfold LIM at *); omega)) only [↓bcase_true, ↓bcase_false, WA, simprocAttr, wrap_i64]
  try simp +contextual (maxSteps := 2000000) (disch := ((try unfold LIM at *); omega)) only [↓bcase_true, ↓bcase_false, WA, simprocAttr, wrap_i64, imgV]
  skip
end Go.Proofs.YtijefmjfdhfjmaaDoor
/- part BS -/
set_option maxRecDepth 100000
namespace Go.Proofs.YtijefmjfdhfjmaaDoor
open Go Go.W Go.RowKit Go.ChangeShapes Go.WideShapes
theorem own0 : ownKnob Tryd.prog.godebug = none := by kernel_rfl
theorem laidOut0 : laidOutB Tryd.prog = true := by kernel_rfl
theorem gWords : Tryd.prog.globalNamed "loop.example/smithy/impl.primWords" = some 0 := by kernel_rfl
theorem tWords : (Tryd.prog.globals[0]?).map (·.type) = some 123 := by kernel_rfl
theorem uWords : Tryd.prog.underlying 123 = some (.array 14 9) := by kernel_rfl
def laidL : List (String × DataW Unit) := [("loop.example/smithy/impl.primWords", Rows.laid_loop_example_smithy_impl_primWords)]
theorem door_met (os : Os) (args : Array Value) : laidMetH Tryd.prog laidL ((World.doorLaid Tryd.prog 400 os).forCall (fun _ _ => 0) ⟨#[], args, []⟩).memory :=
  laidMetH_of_parts3 (fuel := 8) (laidMet_of_run' 8 (by kernel_rfl) (by kernel_rfl)) (by kernel_rfl) (by kernel_rfl)
theorem strs_of {H : Type} {enc : TypeId × Value → H} {W : World} {sp : Nat → Bool} {held : Bool} {m : Nat} {bs : List (List UInt8)} {cs : List Value} {xs : List (DataW H × List MemPlace)} (hx : xs.map (·.1) = bs.map fun b => .lit (.string b)) (hc : cs.length = bs.length)
    (h : ∀ i, i < bs.length → DataW.trod enc Tryd.prog W 0 sp held m 9 ((cs.drop (i * 1)).take 1) = xs[i]?) : cs = bs.map fun b => .string ⟨b.toArray⟩ := by
  refine List.ext_getElem (by simpa using hc) fun i h1 h2 => ?_
  have hi : i < bs.length := by omega
  have h3 := h i hi
  have hd : (cs.drop (i * 1)).take 1 = [cs[i]] := by rw [Nat.mul_one, List.drop_eq_getElem_cons h1]; rfl
  have hl : xs.length = bs.length := by simpa using congrArg List.length hx
  have hxi : xs[i]? = some (xs[i]'(by omega)) := List.getElem?_eq_getElem (by omega)
  rw [hd, hxi] at h3
  obtain ⟨s, e1, e2, _⟩ := DataW.trod_string Tryd.underlying9 h3
  have e3 := congrArg (fun l : List (DataW H) => l[i]?) hx
  simp only [List.getElem?_map, hxi, List.getElem?_eq_getElem hi, Option.map_some, Option.some.injEq] at e3
  rw [e2] at e3
  simp only [DataW.lit.injEq, Lit.string.injEq] at e3
  simp only [List.cons.injEq, and_true] at e1
  rw [List.getElem_map, e1, ← e3]
theorem relG_of {W : World} (h : laidMetH Tryd.prog laidL W) : RelG C (phi0 W).z := by
  rw [MakeChecks.laidMetH_plain _ _ _ (by kernel_rfl)] at h
  obtain ⟨ps, ⟨g0, t0, cs0, f0, p0, q0, hg0, ht0, hv0, hd0, _, _⟩, _, _⟩ := h
  obtain rfl := Option.some.inj (gWords.symm.trans hg0)
  obtain rfl := Option.some.inj (tWords.symm.trans ht0)
  obtain ⟨xs, m1, rfl, hx1, hlen, hn3, hel⟩ := DataW.trod_array uWords hd0
  have c9 : Tryd.prog.cellsOf 9 = 1 := by kernel_rfl
  have c123 : Tryd.prog.cellsOf 123 = 14 := by kernel_rfl
  rw [c9] at hel
  rw [c123] at hlen
  simp only [Prod.mk.injEq, Rows.laid_loop_example_smithy_impl_primWords, DataW.agg.injEq] at hx1
  have key := strs_of (bs := [[43], [45], [42], [47], [37], [60], [60, 61], [61], [110, 111, 116], [97, 116], [108, 101, 110], [112, 117, 116], [106, 111, 105, 110], [112, 114, 105, 110, 116]]) hx1.1.symm hlen hel
  intro g
  match g with
  | 0 =>
    rw [cg0]
    refine ⟨0, 0, rfl, rzs_of (cs := cs0.toList) ?_ fun i v e => ?_⟩
    · rw [key]
      repeat' apply And.intro
      all_goals first | trivial | (simp only [RZ, one]; exact ⟨rfl, rfl⟩)
    · have := World.var?_cell hg0 hv0 i
      show W.cell? ⟨0, 0 + i, none⟩ = some v
      rw [Nat.zero_add, this]; simpa using e
  | g + 1 =>
    have : C.g (g + 1) = .any := by simp [C]
    rw [this]; simp [RZ]
/-- What a law's own walk is for the statement, where package variables are told. -/
theorem pure_trueG {f : Nat} {args : List V} {W : World} {vs : Array Value} (hn : enters C.P f = true) (G : RelG C (phi0 W).z) (c : PureV C f args (.s (.bool true))) (ha : All2 (RelV (phi0 W)) args vs.toList) :
    Calls C.P f vs W fun e W' => e = .returned (.bool true) ∧ Below W.heap.size W W' := by
  rcases c.calls (fun _ => False) W (phi0 W) vs W G (rel0 W) ha with ⟨_, h⟩ | ⟨v, w', hv, _⟩
  · refine h.mono fun e W' ⟨r, φ', h', p1, p2, p3, p4, p5, p6⟩ => ?_
    subst p5
    obtain ⟨v, rfl, q⟩ := p1
    obtain ⟨rfl, -⟩ := s_rel q
    obtain ⟨F, R⟩ := p2
    exact ⟨rfl, R.kept.below⟩
  · exfalso
    unfold enters at hn
    cases hfn : C.P.funcs[f]? with
    | none => rw [hfn] at hn; cases hn
    | some fn =>
      rw [hfn] at hn
      simp only [Bool.and_eq_true, bne_iff_ne, ne_eq] at hn
      have h1 : ¬ fn.name = "runtime.NumGoroutine" := hn.1
      have h2 : fn.body.isNone = false := by
        cases hb : fn.body with
        | none => rw [hb] at hn; exact absurd hn.2 (by simp)
        | some _ => rfl
      simp only [callFunc, run_program, Sem.run_bind, Result.andThen_ok, hfn] at hv
      simp [h1, h2] at hv
section
variable {H' : Type} {enc : TypeId × Value → H'} {W : World}
theorem b3 : Tryd.prog.cellsOf 3 = 1 := by kernel_rfl
theorem b9 : Tryd.prog.cellsOf 9 = 1 := by kernel_rfl
theorem b23 : Tryd.prog.cellsOf 23 = 1 := by kernel_rfl
theorem b71 : Tryd.prog.cellsOf 71 = 1 := by kernel_rfl
theorem b22 : Tryd.prog.cellsOf 22 = 1 := by kernel_rfl
theorem opn_ints : Go.W.Opn enc Tryd.prog W 23 fun xs => ∃ l : List Int, xs = [.f 1 (l.map iV)] := by
  have e1 : Go.W.Opn enc Tryd.prog W 23 fun xs => ∃ els, xs = [.f 1 els] ∧ ∀ el ∈ els, ∃ b : Int, el = iV b := opn_slice (n := 0) Tryd.underlying23 (by kernel_rfl) ((opn_int Tryd.underlying3).mono fun xs ⟨n, e, _⟩ => ⟨n, e⟩)
  refine e1.mono fun xs ⟨els, e, h⟩ => ?_
  obtain ⟨l, rfl⟩ := map_of h
  exact ⟨l, e⟩
theorem opn_ins : Go.W.Opn enc Tryd.prog W 118 fun xs => ∃ x : Ins, xs = insV x := by
  refine (opn_struct (gs := [_, _]) Tryd.underlying118 (by kernel_rfl) ⟨rfl, opn_int Tryd.underlying3, by simp only [b3], opn_int Tryd.underlying3, rfl⟩).mono fun xs g => ?_
  obtain ⟨_, _, rfl, ⟨n, rfl, _⟩, _, _, rfl, ⟨s, rfl, _⟩, rfl⟩ := g
  exact ⟨⟨n, s⟩, rfl⟩
theorem opn_inss : Go.W.Opn enc Tryd.prog W 71 fun xs => ∃ l : List Ins, xs = [.f 2 (l.map insV)] := by
  have e1 : Go.W.Opn enc Tryd.prog W 71 fun xs => ∃ els, xs = [.f 2 els] ∧ ∀ el ∈ els, ∃ x : Ins, el = insV x := opn_slice (n := 1) Tryd.underlying71 (by kernel_rfl) opn_ins
  refine e1.mono fun xs ⟨els, e, h⟩ => ?_
  obtain ⟨l, rfl⟩ := map_of h
  exact ⟨l, e⟩
theorem opn_fn : Go.W.Opn enc Tryd.prog W 73 fun xs => ∃ f : IFun, xs = fnV f := by
  refine (opn_struct (gs := [_, _, _, _, _, _]) Tryd.underlying73 (by kernel_rfl) ⟨rfl, opn_str Tryd.underlying9, by simp only [b9], opn_str Tryd.underlying9, by simp only [b9], opn_ints, by simp only [b9, b23], opn_int Tryd.underlying3, by simp only [b9, b23, b3], opn_int Tryd.underlying3, by simp only [b9, b23, b3], opn_inss, rfl⟩).mono fun xs g => ?_
  obtain ⟨_, _, rfl, ⟨m, rfl⟩, _, _, rfl, ⟨n, rfl⟩, _, _, rfl, ⟨l, rfl⟩, _, _, rfl, ⟨t, rfl, _⟩, _, _, rfl, ⟨s, rfl, _⟩, _, _, rfl, ⟨c, rfl⟩, rfl⟩ := g
  exact ⟨⟨m, n, l, t, s, c⟩, rfl⟩
theorem opn_fns : Go.W.Opn enc Tryd.prog W 22 fun xs => ∃ l : List IFun, xs = [.f 6 (l.map fnV)] := by
  have e1 : Go.W.Opn enc Tryd.prog W 22 fun xs => ∃ els, xs = [.f 6 els] ∧ ∀ el ∈ els, ∃ x : IFun, el = fnV x := opn_slice (n := 5) Tryd.underlying22 (by kernel_rfl) opn_fn
  refine e1.mono fun xs ⟨els, e, h⟩ => ?_
  obtain ⟨l, rfl⟩ := map_of h
  exact ⟨l, e⟩
theorem opn_img : Go.W.Opn enc Tryd.prog W 25 fun xs => ∃ m : Img, xs = imgV m := by
  refine (opn_struct (gs := [_, _]) Tryd.underlying25 (by kernel_rfl) ⟨rfl, opn_fns, by simp only [b22], opn_ints, rfl⟩).mono fun xs g => ?_
  obtain ⟨_, _, rfl, ⟨f, rfl⟩, _, _, rfl, ⟨l, rfl⟩, rfl⟩ := g
  exact ⟨⟨f, l⟩, rfl⟩
end
theorem words_stay {H : Type} {enc : TypeId × Value → H} {W W' : World} {gs : List (DataW H)} {q : List MemPlace} (hV : DataW.TrodVars enc Tryd.prog W (fun _ => true) ["loop.example/smithy/impl.primWords"] gs q) (bel : Below W.heap.size W W') :
    DataW.TrodVars enc Tryd.prog W' (fun b => decide (b < W.heap.size)) ["loop.example/smithy/impl.primWords"] gs q := by
  obtain ⟨g, t, cs, fuel, d, p', rfl, hg, ht, hvar, hd, rfl⟩ := trodVars_one hV
  obtain rfl := Option.some.inj (gWords.symm.trans hg)
  obtain rfl := Option.some.inj (tWords.symm.trans ht)
  have lt : ∀ x ∈ p', x.block < W.heap.size := DataW.trod_lt fuel _ _ _ hd
  have hT : DataW.Trod enc Tryd.prog W 0 (fun _ => true) true 123 (.agg cs) d p' := ⟨fuel, hd⟩
  obtain ⟨fuel', h'⟩ := Below.trod laidOut0 (by kernel_rfl) (of_decide_eq_true (by kernel_rfl)) hT bel lt
  have h0 : 0 < W.heap.size := by
    unfold World.var? at hvar
    rw [hg] at hvar
    simp only [Option.bind_some] at hvar
    by_cases z : 0 < W.heap.size
    · exact z
    · rw [Array.getElem?_eq_none (by omega)] at hvar; cases hvar
  have hv' : W'.var? Tryd.prog "loop.example/smithy/impl.primWords" = some cs := by
    rw [← hvar]
    simp only [World.var?, hg, Option.bind_some, bel.block 0 h0]
  exact trodVars_mk1 hg ht hv' h'
end Go.Proofs.YtijefmjfdhfjmaaDoor
