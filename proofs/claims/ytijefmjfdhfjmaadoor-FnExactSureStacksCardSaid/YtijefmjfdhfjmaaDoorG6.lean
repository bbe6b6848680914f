/- What functions of the program answer, walked on the abstract layer, and closed facts of the program; the conditions stand in each theorem. -/
import Derived.Test.YtijefmjfdhfjmaaDoorG5
import Derived.Test.YtijefmjfdhfjmaaDoorRows
import Derived.WalkKit
import Derived.ProofKit
import Derived.OpenShut
import Derived.ShutString
import Derived.ChangeOld
import Derived.Below
import Derived.SizedLaws
import Derived.LaidMore
import Derived.ChangeVars
/- part S24 -/
set_option linter.unusedVariables false
set_option linter.unusedSimpArgs false
set_option maxRecDepth 100000
namespace Go.Proofs.YtijefmjfdhfjmaaDoor
open Go Go.W Go.RowKit
/-! ### The law's own functions: sizes -/
def lenL {α : Type} (l : List α) (left : Int) : Int := if left - l.length < 0 then -1 else left - l.length
theorem lenL_range {α : Type} (l : List α) (left : Int) (h0 : 0 ≤ left) (h1 : left ≤ 1048576) : -1 ≤ lenL l left ∧ lenL l left ≤ left := by
  unfold lenL; split <;> omega
def kbud {α : Type} (sz : α → Int → Int) : List α → Int → Int
  | [], left => left
  | a :: r, left => if sz a left < 0 then -1 else kbud sz r (sz a left)
def kszS {α : Type} (sz : α → Int → Int) (l : List α) (left : Int) : Int := if left - l.length < 0 then -1 else kbud sz l (left - l.length)
theorem kbud_range {α : Type} {sz : α → Int → Int} (hr : ∀ f left, 0 ≤ left → left ≤ 1048576 → -1 ≤ sz f left ∧ sz f left ≤ left) : ∀ (l : List α) (left : Int), 0 ≤ left → left ≤ 1048576 → -1 ≤ kbud sz l left ∧ kbud sz l left ≤ left
  | [], left, h0, h1 => by rw [kbud]; omega
  | a :: r, left, h0, h1 => by
    have := hr a left h0 h1
    rw [kbud]; split
    · omega
    · have := kbud_range hr r (sz a left) (by omega) (by omega); omega
theorem kszS_range {α : Type} {sz : α → Int → Int} (hr : ∀ f left, 0 ≤ left → left ≤ 1048576 → -1 ≤ sz f left ∧ sz f left ≤ left) (l : List α) (left : Int) (h0 : 0 ≤ left) (h1 : left ≤ 1048576) : -1 ≤ kszS sz l left ∧ kszS sz l left ≤ left := by
  unfold kszS; split
  · omega
  · have := kbud_range hr l (left - l.length) (by omega) (by omega); omega
theorem walk18 (l : List Int) (left : Int) (h0 : 0 ≤ left) (h1 : left ≤ 1048576) : PureV C 18 [.f 1 (l.map iV), .s (.int .i64 left)] (.s (.int .i64 (lenL l left))) := by
  refine pure_of_run Tryd.func18 rfl (by kernel_rfl) (by kernel_rfl) (by simp) (fun _ => rfl) (fun _ => rfl) 6 1000 ?_
  by_cases c : left - (l.length : Int) < 0 <;> simp +contextual (maxSteps := 2000000) (disch := ((try unfold LIM at *); omega)) only [↓bcase_true, ↓bcase_false, WA, simprocAttr, wrap_i64, lenL, List.length_map, c] <;> (try (intros; omega))
theorem walk50 (l : List Ins) (left : Int) (h0 : 0 ≤ left) (h1 : left ≤ 1048576) : PureV C 50 [.f 2 (l.map insV), .s (.int .i64 left)] (.s (.int .i64 (lenL l left))) := by
  refine pure_of_run Tryd.func50 rfl (by kernel_rfl) (by kernel_rfl) (by simp) (fun _ => rfl) (fun _ => rfl) 6 1000 ?_
  by_cases c : left - (l.length : Int) < 0 <;> simp +contextual (maxSteps := 2000000) (disch := ((try unfold LIM at *); omega)) only [↓bcase_true, ↓bcase_false, WA, simprocAttr, wrap_i64, lenL, List.length_map, c] <;> (try (intros; omega))
def szFn (f : IFun) (left : Int) : Int :=
  if left - f.mod.size < 0 then -1 else if left - f.mod.size - f.name.size < 0 then -1 else
  if lenL f.args (left - f.mod.size - f.name.size) < 0 then -1 else lenL f.code (lenL f.args (left - f.mod.size - f.name.size))
theorem szFn_range (f : IFun) (left : Int) (h0 : 0 ≤ left) (h1 : left ≤ 1048576) : -1 ≤ szFn f left ∧ szFn f left ≤ left := by
  unfold szFn
  split
  · omega
  split
  · omega
  have := lenL_range f.args (left - f.mod.size - f.name.size) (by omega) (by omega)
  split
  · omega
  have := lenL_range f.code (lenL f.args (left - f.mod.size - f.name.size)) (by omega) (by omega)
  omega
theorem walk31 (f : IFun) (left : Int) (h0 : 0 ≤ left) (h1 : left ≤ 1048576) : PureV C 31 [.agg (fnV f), .s (.int .i64 left)] (.s (.int .i64 (szFn f left))) := by
  refine pure_of_run Tryd.func31 rfl (by kernel_rfl) (by kernel_rfl) (by simp) (fun _ => rfl) (fun _ => rfl) 6 1000 ?_
  by_cases c1 : left - (f.mod.size : Int) < 0
  · simp +contextual (maxSteps := 2000000) (disch := ((try unfold LIM at *); omega)) only [↓bcase_true, ↓bcase_false, WA, simprocAttr, wrap_i64, fnV, szFn, c1]
    try (intros; omega)
  by_cases c2 : left - (f.mod.size : Int) - f.name.size < 0
  · simp +contextual (maxSteps := 2000000) (disch := ((try unfold LIM at *); omega)) only [↓bcase_true, ↓bcase_false, WA, simprocAttr, wrap_i64, fnV, szFn, c1, c2]
    try (intros; omega)
  simp +contextual (maxSteps := 2000000) (disch := ((try unfold LIM at *); omega)) only [↓bcase_true, ↓bcase_false, WA, simprocAttr, wrap_i64, fnV, szFn, c1, c2]
  intro q1 q2
  refine CallThen.pure (walk18 f.args _ (by omega) (by omega)) 1000 ?_
  have hr := lenL_range f.args (left - f.mod.size - f.name.size) (by omega) (by omega)
  generalize lenL f.args (left - f.mod.size - f.name.size) = e at *
  by_cases c3 : e < 0
  · simp +contextual (maxSteps := 2000000) (disch := ((try unfold LIM at *); omega)) only [↓bcase_true, ↓bcase_false, WA, simprocAttr, wrap_i64, c3]
  simp +contextual (maxSteps := 2000000) (disch := ((try unfold LIM at *); omega)) only [↓bcase_true, ↓bcase_false, WA, simprocAttr, wrap_i64, c3]
  refine CallThen.pure (walk50 f.code _ (by omega) (by omega)) 1000 ?_
  have hr2 := lenL_range f.code e (by omega) (by omega)
  generalize lenL f.code e = e2 at *
  by_cases c4 : e2 < 0
  · have : e2 = -1 := by omega
    simp +contextual (maxSteps := 2000000) (disch := ((try unfold LIM at *); omega)) only [↓bcase_true, ↓bcase_false, WA, simprocAttr, wrap_i64, c4, this]
  · simp +contextual (maxSteps := 2000000) (disch := ((try unfold LIM at *); omega)) only [↓bcase_true, ↓bcase_false, WA, simprocAttr, wrap_i64, c4]
theorem walk17 (l : List IFun) (left : Int) (h0 : 0 ≤ left) (h1 : left ≤ 1048576) : PureV C 17 [.f 6 (l.map fnV), .s (.int .i64 left)] (.s (.int .i64 (kszS szFn l left))) := by
  refine pure_of_run Tryd.func17 rfl (by kernel_rfl) (by kernel_rfl) (by simp) (fun _ => rfl) (fun _ => rfl) 6 1000 ?_
  simp +contextual (maxSteps := 2000000) (disch := ((try unfold LIM at *); omega)) only [↓bcase_true, ↓bcase_false, WA, simprocAttr, wrap_i64, kszS, List.length_map]
  intro hl hc
  refine LoopThen.pure (ι := Nat × Int) (fun p => p.1 ≤ l.length ∧ 0 ≤ p.2 ∧ p.2 ≤ 1048576 ∧ kbud szFn (l.drop p.1) p.2 = kbud szFn l (left - l.length)) (fun p => keepL [(0, .f 6 (l.map fnV)), (1, .s (.int .i64 p.2)), (5, .s (.int .i64 p.1))]) (fun p => l.length - p.1)
    6 [0, 1, 5] 1000 1000 ⟨(0, left - l.length), ⟨by omega, by omega, by omega, rfl⟩, by simp +contextual (maxSteps := 2000000) (disch := ((try unfold LIM at *); omega)) only [↓bcase_true, ↓bcase_false, WA, simprocAttr, wrap_i64]⟩ ?_
  rintro ⟨i, a⟩ ⟨p1, p2, p3, p4⟩
  by_cases c2 : (i : Int) < l.length
  · obtain ⟨f, hf⟩ := get_lt c2
    have pi : (0 : Int) ≤ i := by omega
    simp +contextual (maxSteps := 2000000) (disch := ((try unfold LIM at *); omega)) only [↓bcase_true, ↓bcase_false, WA, simprocAttr, wrap_i64, List.length_map, hl, c2, hf, pi, fnV]
    refine CallThen.pure (walk31 f a p2 p3) 1000 ?_
    have hr := szFn_range f a p2 p3
    have key : kbud szFn l (left - l.length) = if szFn f a < 0 then -1 else kbud szFn (l.drop (i + 1)) (szFn f a) := by rw [← p4]; simp only [drop_cons hf, kbud]
    by_cases c3 : szFn f a < 0
    · simp +contextual (maxSteps := 2000000) (disch := ((try unfold LIM at *); omega)) only [↓bcase_true, ↓bcase_false, WA, simprocAttr, wrap_i64, List.length_map, c3, key]
    · simp +contextual (maxSteps := 2000000) (disch := ((try unfold LIM at *); omega)) only [↓bcase_true, ↓bcase_false, WA, simprocAttr, wrap_i64, List.length_map, c3, cast_succ]
      refine ⟨(i + 1, szFn f a), ⟨⟨by omega, by omega, by omega, ?_⟩, by omega⟩, rfl⟩
      simp only [key, c3, if_false]
  · have e : i = l.length := by simp at p1; omega
    subst e
    simp +contextual (maxSteps := 2000000) (disch := ((try unfold LIM at *); omega)) only [↓bcase_true, ↓bcase_false, WA, simprocAttr, wrap_i64, List.length_map, hl, c2, ← p4, List.drop_length, kbud]
def szImg (m : Img) (left : Int) : Int := if kszS szFn m.funs left < 0 then -1 else lenL m.mains (kszS szFn m.funs left)
theorem walk5 (m : Img) (left : Int) (h0 : 0 ≤ left) (h1 : left ≤ 1048576) : PureV C 5 [.agg (imgV m), .s (.int .i64 left)] (.s (.int .i64 (szImg m left))) := by
  refine pure_of_run Tryd.func5 rfl (by kernel_rfl) (by kernel_rfl) (by simp) (fun _ => rfl) (fun _ => rfl) 6 1000 ?_
  have r := kszS_range szFn_range m.funs left h0 h1
  simp +contextual (maxSteps := 2000000) (disch := ((try unfold LIM at *); omega)) only [↓bcase_true, ↓bcase_false, WA, simprocAttr, wrap_i64, imgV]
  refine CallThen.pure (walk17 m.funs left h0 h1) 1000 ?_
  unfold szImg
  generalize kszS szFn m.funs left = e at *
  by_cases c : e < 0
  · simp +contextual (maxSteps := 2000000) (disch := ((try unfold LIM at *); omega)) only [↓bcase_true, ↓bcase_false, WA, simprocAttr, wrap_i64, c]
  · simp +contextual (maxSteps := 2000000) (disch := ((try unfold LIM at *); omega)) only [↓bcase_true, ↓bcase_false, WA, simprocAttr, wrap_i64, c]
    refine CallThen.pure (walk18 m.mains _ (by omega) (by omega)) 1000 ?_
    have r2 := lenL_range m.mains e (by omega) (by omega)
    generalize lenL m.mains e = e2 at *
    by_cases c4 : e2 < 0
    · have : e2 = -1 := by omega
      simp +contextual (maxSteps := 2000000) (disch := ((try unfold LIM at *); omega)) only [↓bcase_true, ↓bcase_false, WA, simprocAttr, wrap_i64, c4, this]
    · simp +contextual (maxSteps := 2000000) (disch := ((try unfold LIM at *); omega)) only [↓bcase_true, ↓bcase_false, WA, simprocAttr, wrap_i64, c4]
/-- What is in hand, once the size is. -/
theorem kbud_len {l : List IFun} : ∀ {left : Int}, 0 ≤ kbud szFn l left → 0 ≤ left → left ≤ 1048576 → (sizeN l : Int) ≤ left ∧ ∀ f ∈ l, f.args.length ≤ 1048576 ∧ f.code.length ≤ 1048576 := by
  induction l with
  | nil => intro left h h0 h1; exact ⟨by simp [sizeN]; omega, fun f hf => by simp at hf⟩
  | cons f r ih =>
    intro left h h0 h1
    rw [kbud] at h
    split at h
    · omega
    rename_i hs
    have hr := szFn_range f left h0 h1
    obtain ⟨i1, i2⟩ := ih h (by omega) (by omega)
    have key : (f.args.length : Int) + f.code.length + szFn f left ≤ left := by
      unfold szFn at hs ⊢
      split
      · rename_i h1; rw [if_pos h1] at hs; omega
      rename_i h1
      rw [if_neg h1] at hs
      split
      · rename_i h2; rw [if_pos h2] at hs; omega
      rename_i h2
      rw [if_neg h2] at hs
      split
      · rename_i h3; rw [if_pos h3] at hs; omega
      rename_i h3
      rw [if_neg h3] at hs
      unfold lenL at hs h3 ⊢
      split at h3
      · omega
      rename_i h4
      rw [if_neg h4] at hs ⊢
      split at hs
      · omega
      rename_i h5
      rw [if_neg h5]
      omega
    refine ⟨by simp only [sizeN]; omega, fun g hg => ?_⟩
    rcases List.mem_cons.1 hg with e | e
    · subst e; omega
    · exact i2 g e
theorem szImg_len {m : Img} (h : ¬ szImg m 1048576 < 0) : m.funs.length ≤ 1048576 ∧ m.mains.length ≤ 1048576 ∧ sizeN m.funs ≤ 1048576 ∧ ∀ f ∈ m.funs, f.args.length ≤ 1048576 ∧ f.code.length ≤ 1048576 := by
  unfold szImg at h
  have r := kszS_range szFn_range m.funs 1048576 (by decide) (by decide)
  split at h
  · omega
  rename_i h1
  have hm : (m.mains.length : Int) ≤ 1048576 := by
    unfold lenL at h; split at h <;> omega
  unfold kszS at h1
  split at h1
  · omega
  rename_i h2
  obtain ⟨k1, k2⟩ := kbud_len (l := m.funs) (left := 1048576 - m.funs.length) (by omega) (by omega) (by omega)
  exact ⟨by omega, by omega, by omega, k2⟩
/-! ### Copies -/
theorem walk22 (l : List Int) (hl : l.length ≤ 1048576) : PureV C 22 [.f 1 (l.map iV)] (.f 1 (l.map iV)) := by
  refine pure_of_run Tryd.func22 rfl (by kernel_rfl) (by kernel_rfl) (by simp) (fun _ => rfl) (fun _ => rfl) 6 1000 ?_
  have z1 := fun n => nrs_replicate (el := [V.s (.int .i64 0)]) rfl n
  have b0 : (0 : Int) ≤ l.length := by omega
  have b1 : (8 : Int) * l.length ≤ 140737488355328 := by omega
  have b2 : (l.length : Int) ≤ 4611686018427387904 := by omega
  simp +contextual (maxSteps := 2000000) (disch := ((try unfold LIM at *); omega)) only [↓bcase_true, ↓bcase_false, WA, simprocAttr, wrap_i64, List.length_map, b0, b1, b2, Int.le_refl]
  intro hl'
  refine LoopThen.own (ι := Nat) (fun i => i ≤ l.length) (fun i => [(0, .f 1 (l.map iV)), (3, .sl 0 0 l.length l.length), (4, .s (.int .i64 i))]) (fun i => [⟨(l.take i).map iV ++ List.replicate (l.length - i) [V.s (.int .i64 0)], 1, l.length, true⟩]) (fun i => l.length - i)
    1000 1000 ⟨0, Nat.zero_le _, [0], by simp, by simp +contextual (maxSteps := 2000000) (disch := ((try unfold LIM at *); omega)) only [↓bcase_true, ↓bcase_false, WA, simprocAttr, wrap_i64, z1, Nat.sub_zero, true_or], by simp +contextual (maxSteps := 2000000) (disch := ((try unfold LIM at *); omega)) only [↓bcase_true, ↓bcase_false, WA, simprocAttr, wrap_i64]⟩ ?_
  intro i p1
  by_cases c2 : (i : Int) < l.length
  · obtain ⟨f, hf⟩ := get_lt c2
    have pi : (0 : Int) ≤ i := by omega
    obtain ⟨k, hk⟩ : ∃ k, l.length - i = k + 1 := ⟨l.length - i - 1, by omega⟩
    have hl1 : ((l.take i).map iV).length = i := by simp; omega
    have g1 : ((l.take i).map iV ++ List.replicate (l.length - i) [V.s (.int .i64 0)])[i]? = some [V.s (.int .i64 0)] := by rw [fill_get _ _ hl1, hk]; rfl
    have g2 : ((l.take i).map iV ++ List.replicate (l.length - i) [V.s (.int .i64 0)]).set i (iV f) = (l.take (i + 1)).map iV ++ List.replicate (l.length - (i + 1)) [V.s (.int .i64 0)] := by
      rw [hk, fill_set _ _ _ _ _ hl1, List.take_add_one, hf, show l.length - (i + 1) = k by omega]; simp
    have g3 : nrs ((l.take (i + 1)).map iV ++ List.replicate (l.length - (i + 1)) [V.s (.int .i64 0)]) = true := by rw [nrs_append, nrs_map (fun _ => rfl), z1]; rfl
    simp +contextual (maxSteps := 2000000) (disch := ((try unfold LIM at *); omega)) only [↓bcase_true, ↓bcase_false, WA, simprocAttr, wrap_i64, List.length_map, hl', c2, hf, pi, iV, g1]
    simp only [iV] at g2 g3
    simp +contextual (maxSteps := 2000000) (disch := ((try unfold LIM at *); omega)) only [↓bcase_true, ↓bcase_false, WA, simprocAttr, wrap_i64, iV, g1, g2, List.length_map, pi, c2, cast_succ]
    exact ⟨i + 1, ⟨by omega, by omega⟩, [0], by simp, ⟨.inl ⟨g3, rfl⟩, trivial⟩, by simp +contextual (maxSteps := 2000000) (disch := ((try unfold LIM at *); omega)) only [↓bcase_true, ↓bcase_false, WA, simprocAttr, wrap_i64, nm_at]⟩
  · have e : i = l.length := by omega
    subst e
    have g4 : (l.take l.length).map iV ++ List.replicate (l.length - l.length) [V.s (.int .i64 0)] = l.map iV := by simp
    have g5 : ((l.map iV).map fun el => el.map (frz 0 5 [⟨l.map iV, 1, l.length, true⟩])) = l.map iV := frz_els (nrs_map (fun _ => rfl) l) (leafs_map (fun _ => rfl) l)
    have g6 : (l.map iV).take l.length = l.map iV := List.take_of_length_le (by simp)
    simp +contextual (maxSteps := 2000000) (disch := ((try unfold LIM at *); omega)) only [↓bcase_true, ↓bcase_false, WA, simprocAttr, wrap_i64, List.length_map, hl', c2, g4, g5, g6]
theorem walk80 (x : Ins) : PureV C 80 [.agg (insV x)] (.agg (insV x)) := by
  refine pure_of_run Tryd.func80 rfl (by kernel_rfl) (by kernel_rfl) (by simp) (fun _ => rfl) (fun _ => rfl) 6 1000 ?_
  simp +contextual (maxSteps := 2000000) (disch := ((try unfold LIM at *); omega)) only [↓bcase_true, ↓bcase_false, WA, simprocAttr, wrap_i64, insV]
theorem walk63 (l : List Ins) (hl : l.length ≤ 1048576) : PureV C 63 [.f 2 (l.map insV)] (.f 2 (l.map insV)) := by
  refine pure_of_run Tryd.func63 rfl (by kernel_rfl) (by kernel_rfl) (by simp) (fun _ => rfl) (fun _ => rfl) 6 1000 ?_
  have z1 := fun n => nrs_replicate (el := [V.s (.int .i64 0), .s (.int .i64 0)]) rfl n
  have b0 : (0 : Int) ≤ l.length := by omega
  have b1 : (16 : Int) * l.length ≤ 140737488355328 := by omega
  have b2 : (l.length : Int) ≤ 4611686018427387904 := by omega
  simp +contextual (maxSteps := 2000000) (disch := ((try unfold LIM at *); omega)) only [↓bcase_true, ↓bcase_false, WA, simprocAttr, wrap_i64, List.length_map, b0, b1, b2, Int.le_refl]
  intro hl'
  refine LoopThen.own (ι := Nat) (fun i => i ≤ l.length) (fun i => [(0, .f 2 (l.map insV)), (3, .sl 0 0 l.length l.length), (4, .s (.int .i64 i))]) (fun i => [⟨(l.take i).map insV ++ List.replicate (l.length - i) [V.s (.int .i64 0), .s (.int .i64 0)], 2, l.length, true⟩]) (fun i => l.length - i)
    1000 1000 ⟨0, Nat.zero_le _, [0], by simp, by simp +contextual (maxSteps := 2000000) (disch := ((try unfold LIM at *); omega)) only [↓bcase_true, ↓bcase_false, WA, simprocAttr, wrap_i64, z1, Nat.sub_zero, true_or], by simp +contextual (maxSteps := 2000000) (disch := ((try unfold LIM at *); omega)) only [↓bcase_true, ↓bcase_false, WA, simprocAttr, wrap_i64]⟩ ?_
  intro i p1
  by_cases c2 : (i : Int) < l.length
  · obtain ⟨f, hf⟩ := get_lt c2
    have pi : (0 : Int) ≤ i := by omega
    obtain ⟨k, hk⟩ : ∃ k, l.length - i = k + 1 := ⟨l.length - i - 1, by omega⟩
    have hl1 : ((l.take i).map insV).length = i := by simp; omega
    have g1 : ((l.take i).map insV ++ List.replicate (l.length - i) [V.s (.int .i64 0), .s (.int .i64 0)])[i]? = some [V.s (.int .i64 0), .s (.int .i64 0)] := by rw [fill_get _ _ hl1, hk]; rfl
    have g2 : ((l.take i).map insV ++ List.replicate (l.length - i) [V.s (.int .i64 0), .s (.int .i64 0)]).set i (insV f) = (l.take (i + 1)).map insV ++ List.replicate (l.length - (i + 1)) [V.s (.int .i64 0), .s (.int .i64 0)] := by
      rw [hk, fill_set _ _ _ _ _ hl1, List.take_add_one, hf, show l.length - (i + 1) = k by omega]; simp
    have g3 : nrs ((l.take (i + 1)).map insV ++ List.replicate (l.length - (i + 1)) [V.s (.int .i64 0), .s (.int .i64 0)]) = true := by rw [nrs_append, nrs_map (fun _ => rfl), z1]; rfl
    simp +contextual (maxSteps := 2000000) (disch := ((try unfold LIM at *); omega)) only [↓bcase_true, ↓bcase_false, WA, simprocAttr, wrap_i64, List.length_map, hl', c2, hf, pi, insV, g1]
    refine CallThen.pure (walk80 f) 1000 ?_
    simp only [insV] at g2 g3
    simp +contextual (maxSteps := 2000000) (disch := ((try unfold LIM at *); omega)) only [↓bcase_true, ↓bcase_false, WA, simprocAttr, wrap_i64, insV, g1, g2, List.length_map, pi, c2, cast_succ]
    exact ⟨i + 1, ⟨by omega, by omega⟩, [0], by simp, ⟨.inl ⟨g3, rfl⟩, trivial⟩, by simp +contextual (maxSteps := 2000000) (disch := ((try unfold LIM at *); omega)) only [↓bcase_true, ↓bcase_false, WA, simprocAttr, wrap_i64, nm_at]⟩
  · have e : i = l.length := by omega
    subst e
    have g4 : (l.take l.length).map insV ++ List.replicate (l.length - l.length) [V.s (.int .i64 0), .s (.int .i64 0)] = l.map insV := by simp
    have g5 : ((l.map insV).map fun el => el.map (frz 0 5 [⟨l.map insV, 2, l.length, true⟩])) = l.map insV := frz_els (nrs_map (fun _ => rfl) l) (leafs_map (fun _ => rfl) l)
    have g6 : (l.map insV).take l.length = l.map insV := List.take_of_length_le (by simp)
    simp +contextual (maxSteps := 2000000) (disch := ((try unfold LIM at *); omega)) only [↓bcase_true, ↓bcase_false, WA, simprocAttr, wrap_i64, List.length_map, hl', c2, g4, g5, g6]
theorem walk36 (f : IFun) (h1 : f.args.length ≤ 1048576) (h2 : f.code.length ≤ 1048576) : PureV C 36 [.agg (fnV f)] (.agg (fnV f)) := by
  refine pure_of_run Tryd.func36 rfl (by kernel_rfl) (by kernel_rfl) (by simp) (fun _ => rfl) (fun _ => rfl) 6 1000 ?_
  simp +contextual (maxSteps := 2000000) (disch := ((try unfold LIM at *); omega)) only [↓bcase_true, ↓bcase_false, WA, simprocAttr, wrap_i64, fnV]
  refine CallThen.pure (walk22 f.args h1) 1000 ?_
  simp +contextual (maxSteps := 2000000) (disch := ((try unfold LIM at *); omega)) only [↓bcase_true, ↓bcase_false, WA, simprocAttr, wrap_i64]
  refine CallThen.pure (walk63 f.code h2) 1000 ?_
  simp +contextual (maxSteps := 2000000) (disch := ((try unfold LIM at *); omega)) only [↓bcase_true, ↓bcase_false, WA, simprocAttr, wrap_i64]
theorem walk21 (l : List IFun) (hl : l.length ≤ 1048576) (hf2 : ∀ f ∈ l, f.args.length ≤ 1048576 ∧ f.code.length ≤ 1048576) : PureV C 21 [.f 6 (l.map fnV)] (.f 6 (l.map fnV)) := by
  refine pure_of_run Tryd.func21 rfl (by kernel_rfl) (by kernel_rfl) (by simp) (fun _ => rfl) (fun _ => rfl) 6 1000 ?_
  have z1 := fun n => nrs_replicate (el := [V.s (.string ⟨#[]⟩), .s (.string ⟨#[]⟩), .z, .s (.int .i64 0), .s (.int .i64 0), .z]) rfl n
  have b0 : (0 : Int) ≤ l.length := by omega
  have b1 : (96 : Int) * l.length ≤ 140737488355328 := by omega
  have b2 : (l.length : Int) ≤ 4611686018427387904 := by omega
  simp +contextual (maxSteps := 2000000) (disch := ((try unfold LIM at *); omega)) only [↓bcase_true, ↓bcase_false, WA, simprocAttr, wrap_i64, List.length_map, b0, b1, b2, Int.le_refl]
  intro hl'
  refine LoopThen.own (ι := Nat) (fun i => i ≤ l.length) (fun i => [(0, .f 6 (l.map fnV)), (3, .sl 0 0 l.length l.length), (4, .s (.int .i64 i))]) (fun i => [⟨(l.take i).map fnV ++ List.replicate (l.length - i) [V.s (.string ⟨#[]⟩), .s (.string ⟨#[]⟩), .z, .s (.int .i64 0), .s (.int .i64 0), .z], 6, l.length, true⟩]) (fun i => l.length - i)
    1000 1000 ⟨0, Nat.zero_le _, [0], by simp, by simp +contextual (maxSteps := 2000000) (disch := ((try unfold LIM at *); omega)) only [↓bcase_true, ↓bcase_false, WA, simprocAttr, wrap_i64, z1, Nat.sub_zero, true_or], by simp +contextual (maxSteps := 2000000) (disch := ((try unfold LIM at *); omega)) only [↓bcase_true, ↓bcase_false, WA, simprocAttr, wrap_i64]⟩ ?_
  intro i p1
  by_cases c2 : (i : Int) < l.length
  · obtain ⟨f, hf⟩ := get_lt c2
    have pi : (0 : Int) ≤ i := by omega
    obtain ⟨k, hk⟩ : ∃ k, l.length - i = k + 1 := ⟨l.length - i - 1, by omega⟩
    have hl1 : ((l.take i).map fnV).length = i := by simp; omega
    have g1 : ((l.take i).map fnV ++ List.replicate (l.length - i) [V.s (.string ⟨#[]⟩), .s (.string ⟨#[]⟩), .z, .s (.int .i64 0), .s (.int .i64 0), .z])[i]? = some [V.s (.string ⟨#[]⟩), .s (.string ⟨#[]⟩), .z, .s (.int .i64 0), .s (.int .i64 0), .z] := by rw [fill_get _ _ hl1, hk]; rfl
    have g2 : ((l.take i).map fnV ++ List.replicate (l.length - i) [V.s (.string ⟨#[]⟩), .s (.string ⟨#[]⟩), .z, .s (.int .i64 0), .s (.int .i64 0), .z]).set i (fnV f) = (l.take (i + 1)).map fnV ++ List.replicate (l.length - (i + 1)) [V.s (.string ⟨#[]⟩), .s (.string ⟨#[]⟩), .z, .s (.int .i64 0), .s (.int .i64 0), .z] := by
      rw [hk, fill_set _ _ _ _ _ hl1, List.take_add_one, hf, show l.length - (i + 1) = k by omega]; simp
    have g3 : nrs ((l.take (i + 1)).map fnV ++ List.replicate (l.length - (i + 1)) [V.s (.string ⟨#[]⟩), .s (.string ⟨#[]⟩), .z, .s (.int .i64 0), .s (.int .i64 0), .z]) = true := by rw [nrs_append, nrs_map (fun _ => rfl), z1]; rfl
    simp +contextual (maxSteps := 2000000) (disch := ((try unfold LIM at *); omega)) only [↓bcase_true, ↓bcase_false, WA, simprocAttr, wrap_i64, List.length_map, hl', c2, hf, pi, fnV, g1]
    have hff := hf2 f (List.mem_of_getElem? hf)
    refine CallThen.pure (walk36 f hff.1 hff.2) 1000 ?_
    simp only [fnV] at g2 g3
    simp +contextual (maxSteps := 2000000) (disch := ((try unfold LIM at *); omega)) only [↓bcase_true, ↓bcase_false, WA, simprocAttr, wrap_i64, fnV, g1, g2, List.length_map, pi, c2, cast_succ]
    exact ⟨i + 1, ⟨by omega, by omega⟩, [0], by simp, ⟨.inl ⟨g3, rfl⟩, trivial⟩, by simp +contextual (maxSteps := 2000000) (disch := ((try unfold LIM at *); omega)) only [↓bcase_true, ↓bcase_false, WA, simprocAttr, wrap_i64, nm_at]⟩
  · have e : i = l.length := by omega
    subst e
    have g4 : (l.take l.length).map fnV ++ List.replicate (l.length - l.length) [V.s (.string ⟨#[]⟩), .s (.string ⟨#[]⟩), .z, .s (.int .i64 0), .s (.int .i64 0), .z] = l.map fnV := by simp
    have g5 : ((l.map fnV).map fun el => el.map (frz 0 5 [⟨l.map fnV, 6, l.length, true⟩])) = l.map fnV := frz_els (nrs_map (fun _ => rfl) l) (leafs_map (fun _ => rfl) l)
    have g6 : (l.map fnV).take l.length = l.map fnV := List.take_of_length_le (by simp)
    simp +contextual (maxSteps := 2000000) (disch := ((try unfold LIM at *); omega)) only [↓bcase_true, ↓bcase_false, WA, simprocAttr, wrap_i64, List.length_map, hl', c2, g4, g5, g6]
theorem walk7 (m : Img) (h1 : m.funs.length ≤ 1048576) (h2 : m.mains.length ≤ 1048576) (h3 : ∀ f ∈ m.funs, f.args.length ≤ 1048576 ∧ f.code.length ≤ 1048576) : PureV C 7 [.agg (imgV m)] (.agg (imgV m)) := by
  refine pure_of_run Tryd.func7 rfl (by kernel_rfl) (by kernel_rfl) (by simp) (fun _ => rfl) (fun _ => rfl) 6 1000 ?_
  simp +contextual (maxSteps := 2000000) (disch := ((try unfold LIM at *); omega)) only [↓bcase_true, ↓bcase_false, WA, simprocAttr, wrap_i64, imgV]
  refine CallThen.pure (walk21 m.funs h1 h3) 1000 ?_
  simp +contextual (maxSteps := 2000000) (disch := ((try unfold LIM at *); omega)) only [↓bcase_true, ↓bcase_false, WA, simprocAttr, wrap_i64]
  refine CallThen.pure (walk22 m.mains h2) 1000 ?_
  simp +contextual (maxSteps := 2000000) (disch := ((try unfold LIM at *); omega)) only [↓bcase_true, ↓bcase_false, WA, simprocAttr, wrap_i64]
end Go.Proofs.YtijefmjfdhfjmaaDoor
/- part S25 -/
set_option linter.unusedVariables false
set_option linter.unusedSimpArgs false
set_option maxRecDepth 100000
namespace Go.Proofs.YtijefmjfdhfjmaaDoor
open Go Go.W Go.RowKit
/-! ### Equality: of a thing with itself -/
theorem walk26 (l : List Int) : PureV C 26 [.f 1 (l.map iV), .f 1 (l.map iV)] (.s (.bool true)) := by
  refine pure_of_run Tryd.func26 rfl (by kernel_rfl) (by kernel_rfl) (by simp) (fun _ => rfl) (fun _ => rfl) 6 1000 ?_
  simp +contextual (maxSteps := 2000000) (disch := ((try unfold LIM at *); omega)) only [↓bcase_true, ↓bcase_false, WA, simprocAttr, wrap_i64, List.length_map]
  intro _
  refine LoopThen.pure (ι := Nat) (fun i => i ≤ l.length) (fun i => keepL [(0, .f 1 (l.map iV)), (1, .f 1 (l.map iV)), (5, .s (.int .i64 i))]) (fun i => l.length - i)
    6 [0, 1, 5] 1000 1000 ⟨0, by omega, by simp +contextual (maxSteps := 2000000) (disch := ((try unfold LIM at *); omega)) only [↓bcase_true, ↓bcase_false, WA, simprocAttr, wrap_i64]⟩ ?_
  intro i p1
  by_cases c2 : (i : Int) < l.length
  · obtain ⟨f, hf⟩ := get_lt c2
    have pi : (0 : Int) ≤ i := by omega
    have hfv : (l.map iV)[i]? = some (iV f) := by rw [List.getElem?_map, hf]; rfl
    simp +contextual (maxSteps := 2000000) (disch := ((try unfold LIM at *); omega)) only [↓bcase_true, ↓bcase_false, WA, simprocAttr, wrap_i64, List.length_map, c2]
    refine fun _ => DrawThen.of 1000 [] (.old 0 (.old 1 (.old 2 (.old 3 (.old 4 (.old 5 (.old 6 (.old 7 (.old 8 .done))))))))) (panFree_loopP (panFree_pure _ _ _)) (by kernel_rfl) (by kernel_rfl) (by kernel_rfl) ?_
    simp +contextual (maxSteps := 2000000) (disch := ((try unfold LIM at *); omega)) only [↓bcase_true, ↓bcase_false, WA, simprocAttr, wrap_i64, List.length_map, c2, hfv, pi, iV, cast_succ]
    exact ⟨i + 1, ⟨by omega, by omega⟩, rfl⟩
  · have e : i = l.length := by omega
    subst e
    simp +contextual (maxSteps := 2000000) (disch := ((try unfold LIM at *); omega)) only [↓bcase_true, ↓bcase_false, WA, simprocAttr, wrap_i64, List.length_map, c2]
theorem walk92 (x : Ins) : PureV C 92 [.agg (insV x), .agg (insV x)] (.s (.bool true)) := by
  refine pure_of_run Tryd.func92 rfl (by kernel_rfl) (by kernel_rfl) (by simp) (fun _ => rfl) (fun _ => rfl) 6 1000 ?_
  simp +contextual (maxSteps := 2000000) (disch := ((try unfold LIM at *); omega)) only [↓bcase_true, ↓bcase_false, WA, simprocAttr, wrap_i64, insV]
theorem walk74 (l : List Ins) : PureV C 74 [.f 2 (l.map insV), .f 2 (l.map insV)] (.s (.bool true)) := by
  refine pure_of_run Tryd.func74 rfl (by kernel_rfl) (by kernel_rfl) (by simp) (fun _ => rfl) (fun _ => rfl) 6 1000 ?_
  simp +contextual (maxSteps := 2000000) (disch := ((try unfold LIM at *); omega)) only [↓bcase_true, ↓bcase_false, WA, simprocAttr, wrap_i64, List.length_map]
  intro _
  refine LoopThen.pure (ι := Nat) (fun i => i ≤ l.length) (fun i => keepL [(0, .f 2 (l.map insV)), (1, .f 2 (l.map insV)), (5, .s (.int .i64 i))]) (fun i => l.length - i)
    6 [0, 1, 5] 1000 1000 ⟨0, by omega, by simp +contextual (maxSteps := 2000000) (disch := ((try unfold LIM at *); omega)) only [↓bcase_true, ↓bcase_false, WA, simprocAttr, wrap_i64]⟩ ?_
  intro i p1
  by_cases c2 : (i : Int) < l.length
  · obtain ⟨f, hf⟩ := get_lt c2
    have pi : (0 : Int) ≤ i := by omega
    have hfv : (l.map insV)[i]? = some (insV f) := by rw [List.getElem?_map, hf]; rfl
    simp +contextual (maxSteps := 2000000) (disch := ((try unfold LIM at *); omega)) only [↓bcase_true, ↓bcase_false, WA, simprocAttr, wrap_i64, List.length_map, c2]
    intro _
    refine DrawThen.of 1000 [] (.old 0 (.old 1 (.old 2 (.old 3 (.old 4 (.old 5 (.old 6 (.old 7 (.go 8 (.new 9 .done)))))))))) (panFree_loopP (panFree_pure _ _ _)) (by kernel_rfl) (by kernel_rfl) (by kernel_rfl) ?_
    simp +contextual (maxSteps := 2000000) (disch := ((try unfold LIM at *); omega)) only [↓bcase_true, ↓bcase_false, WA, simprocAttr, wrap_i64, List.length_map, c2, hfv, pi, insV, cast_succ]
    refine DCall.pure (walk92 f) 1000 (.new 9 .done) (by kernel_rfl) ?_
    simp +contextual (maxSteps := 2000000) (disch := ((try unfold LIM at *); omega)) only [↓bcase_true, ↓bcase_false, WA, simprocAttr, wrap_i64, cast_succ]
    try simp +contextual (maxSteps := 2000000) (disch := ((try unfold LIM at *); omega)) only [↓bcase_true, ↓bcase_false, WA, simprocAttr, wrap_i64, List.length_map, c2, hfv, pi, insV, cast_succ]
    skip
    exact ⟨i + 1, ⟨by omega, by omega⟩, rfl⟩
  · have e : i = l.length := by omega
    subst e
    simp +contextual (maxSteps := 2000000) (disch := ((try unfold LIM at *); omega)) only [↓bcase_true, ↓bcase_false, WA, simprocAttr, wrap_i64, List.length_map, c2]
theorem walk46 (f : IFun) : PureV C 46 [.agg (fnV f), .agg (fnV f)] (.s (.bool true)) := by
  refine pure_of_run Tryd.func46 rfl (by kernel_rfl) (by kernel_rfl) (by simp) (fun _ => rfl) (fun _ => rfl) 6 1000 ?_
  simp +contextual (maxSteps := 2000000) (disch := ((try unfold LIM at *); omega)) only [↓bcase_true, ↓bcase_false, WA, simprocAttr, wrap_i64, fnV]
  refine CallThen.pure (walk26 f.args) 1000 ?_
  simp +contextual (maxSteps := 2000000) (disch := ((try unfold LIM at *); omega)) only [↓bcase_true, ↓bcase_false, WA, simprocAttr, wrap_i64]
  refine CallThen.pure (walk74 f.code) 1000 ?_
  simp +contextual (maxSteps := 2000000) (disch := ((try unfold LIM at *); omega)) only [↓bcase_true, ↓bcase_false, WA, simprocAttr, wrap_i64]
theorem walk25 (l : List IFun) : PureV C 25 [.f 6 (l.map fnV), .f 6 (l.map fnV)] (.s (.bool true)) := by
  refine pure_of_run Tryd.func25 rfl (by kernel_rfl) (by kernel_rfl) (by simp) (fun _ => rfl) (fun _ => rfl) 6 1000 ?_
  simp +contextual (maxSteps := 2000000) (disch := ((try unfold LIM at *); omega)) only [↓bcase_true, ↓bcase_false, WA, simprocAttr, wrap_i64, List.length_map]
  intro _
  refine LoopThen.pure (ι := Nat) (fun i => i ≤ l.length) (fun i => keepL [(0, .f 6 (l.map fnV)), (1, .f 6 (l.map fnV)), (5, .s (.int .i64 i))]) (fun i => l.length - i)
    6 [0, 1, 5] 1000 1000 ⟨0, by omega, by simp +contextual (maxSteps := 2000000) (disch := ((try unfold LIM at *); omega)) only [↓bcase_true, ↓bcase_false, WA, simprocAttr, wrap_i64]⟩ ?_
  intro i p1
  by_cases c2 : (i : Int) < l.length
  · obtain ⟨f, hf⟩ := get_lt c2
    have pi : (0 : Int) ≤ i := by omega
    have hfv : (l.map fnV)[i]? = some (fnV f) := by rw [List.getElem?_map, hf]; rfl
    simp +contextual (maxSteps := 2000000) (disch := ((try unfold LIM at *); omega)) only [↓bcase_true, ↓bcase_false, WA, simprocAttr, wrap_i64, List.length_map, c2]
    intro _
    refine DrawThen.of 1000 [] (.old 0 (.old 1 (.old 2 (.old 3 (.old 4 (.old 5 (.old 6 (.old 7 (.go 8 (.new 9 .done)))))))))) (panFree_loopP (panFree_pure _ _ _)) (by kernel_rfl) (by kernel_rfl) (by kernel_rfl) ?_
    simp +contextual (maxSteps := 2000000) (disch := ((try unfold LIM at *); omega)) only [↓bcase_true, ↓bcase_false, WA, simprocAttr, wrap_i64, List.length_map, c2, hfv, pi, fnV, cast_succ]
    refine DCall.pure (walk46 f) 1000 (.new 9 .done) (by kernel_rfl) ?_
    simp +contextual (maxSteps := 2000000) (disch := ((try unfold LIM at *); omega)) only [↓bcase_true, ↓bcase_false, WA, simprocAttr, wrap_i64, cast_succ]
    try simp +contextual (maxSteps := 2000000) (disch := ((try unfold LIM at *); omega)) only [↓bcase_true, ↓bcase_false, WA, simprocAttr, wrap_i64, List.length_map, c2, hfv, pi, fnV, cast_succ]
    skip
    exact ⟨i + 1, ⟨by omega, by omega⟩, rfl⟩
  · have e : i = l.length := by omega
    subst e
    simp +contextual (maxSteps := 2000000) (disch := ((try unfold LIM at *); omega)) only [↓bcase_true, ↓bcase_false, WA, simprocAttr, wrap_i64, List.length_map, c2]
theorem walk10 (m : Img) : PureV C 10 [.agg (imgV m), .agg (imgV m)] (.s (.bool true)) := by
  refine pure_of_run Tryd.func10 rfl (by kernel_rfl) (by kernel_rfl) (by simp) (fun _ => rfl) (fun _ => rfl) 6 1000 ?_
  simp +contextual (maxSteps := 2000000) (disch := ((try unfold LIM at *); omega)) only [↓bcase_true, ↓bcase_false, WA, simprocAttr, wrap_i64, imgV]
  refine CallThen.pure (walk25 m.funs) 1000 ?_
  simp +contextual (maxSteps := 2000000) (disch := ((try unfold LIM at *); omega)) only [↓bcase_true, ↓bcase_false, WA, simprocAttr, wrap_i64]
  refine CallThen.pure (walk26 m.mains) 1000 ?_
  simp +contextual (maxSteps := 2000000) (disch := ((try unfold LIM at *); omega)) only [↓bcase_true, ↓bcase_false, WA, simprocAttr, wrap_i64]
theorem walk9 (p : Int × Int × Int) : PureV C 9 [fltV p, fltV p] (.s (.bool true)) := by
  refine pure_of_run Tryd.func9 rfl (by kernel_rfl) (by kernel_rfl) (by simp) (fun _ => rfl) (fun _ => rfl) 6 1000 ?_
  simp +contextual (maxSteps := 2000000) (disch := ((try unfold LIM at *); omega)) only [↓bcase_true, ↓bcase_false, WA, simprocAttr, wrap_i64, fltV]
/-! ### The law -/
theorem walk3 (m : Img) : PureV C 3 [.agg (imgV m)] (.s (.bool true)) := by
  refine pure_of_run Tryd.func3 rfl (by kernel_rfl) (by kernel_rfl) (by simp) (fun _ => rfl) (fun _ => rfl) 6 1000 ?_
  simp +contextual (maxSteps := 2000000) (disch := ((try unfold LIM at *); omega)) only [↓bcase_true, ↓bcase_false, WA, simprocAttr, wrap_i64, imgV]
  refine CallThen.pure (walk5 m 1048576 (by decide) (by decide)) 1000 ?_
  by_cases c : szImg m 1048576 < 0
  · simp +contextual (maxSteps := 2000000) (disch := ((try unfold LIM at *); omega)) only [↓bcase_true, ↓bcase_false, WA, simprocAttr, wrap_i64, c]
  obtain ⟨h1, h2, h3, h4⟩ := szImg_len c
  simp +contextual (maxSteps := 2000000) (disch := ((try unfold LIM at *); omega)) only [↓bcase_true, ↓bcase_false, WA, simprocAttr, wrap_i64, c]
  refine CallThen.pure (walk7 m h1 h2 h4) 1000 ?_
  simp +contextual (maxSteps := 2000000) (disch := ((try unfold LIM at *); omega)) only [↓bcase_true, ↓bcase_false, WA, simprocAttr, wrap_i64, imgV]
  refine CallThen.pure (walk6 m h1 h2 h3) 1000 ?_
  simp +contextual (maxSteps := 2000000) (disch := ((try unfold LIM at *); omega)) only [↓bcase_true, ↓bcase_false, WA, simprocAttr, wrap_i64, fltV]
  refine CallThen.pure (walk7 m h1 h2 h4) 1000 ?_
  simp +contextual (maxSteps := 2000000) (disch := ((try unfold LIM at *); omega)) only [↓bcase_true, ↓bcase_false, WA, simprocAttr, wrap_i64, imgV]
  refine CallThen.pure (walk8 m h1 h2 h3) 1000 ?_
  simp +contextual (maxSteps := 2000000) (disch := ((try unfold LIM at *); omega)) only [↓bcase_true, ↓bcase_false, WA, simprocAttr, wrap_i64, fltV]
  refine CallThen.pure (walk9 (sureF m)) 1000 ?_
  simp +contextual (maxSteps := 2000000) (disch := ((try unfold LIM at *); omega)) only [↓bcase_true, ↓bcase_false, WA, simprocAttr, wrap_i64]
  refine DrawThen.of 1000 [] (.old 0 (.old 1 (.go 2 (.go 3 (.new 4 .done))))) (panFree_pure _ _ _) (by kernel_rfl) (by kernel_rfl) (by kernel_rfl) ?_
  simp +contextual (maxSteps := 2000000) (disch := ((try unfold LIM at *); omega)) only [↓bcase_true, ↓bcase_false, WA, simprocAttr, wrap_i64, imgV]
  refine DCall.pure (walk7 m h1 h2 h4) 1000 (.go 3 (.new 4 .done)) (by kernel_rfl) ?_
  simp +contextual (maxSteps := 2000000) (disch := ((try unfold LIM at *); omega)) only [↓bcase_true, ↓bcase_false, WA, simprocAttr, wrap_i64, imgV]
  try simp +contextual (maxSteps := 2000000) (disch := ((try unfold LIM at *); omega)) only [↓bcase_true, ↓bcase_false, WA, simprocAttr, wrap_i64, imgV]
  refine DCall.pure (walk10 m) 1000 (.new 4 .done) (by kernel_rfl) ?_
  simp +contextual (maxSteps := 2000000) (disch := ((try unfold LIM at *); omega)) only [↓bcase_true, ↓bcase_false, WA, simprocAttr, wrap_i64]
  try simp +contextual (maxSteps := 2000000) (disch := ((try unfold LIM at *); omega)) only [↓bcase_true, ↓bcase_false, WA, simprocAttr, wrap_i64, imgV]
  skip
end Go.Proofs.YtijefmjfdhfjmaaDoor
/- part W52 -/
set_option linter.unusedVariables false
set_option linter.unusedSimpArgs false
namespace Go.W
open Go Go.RowKit

/-! ### A function that only reads may be handed what is one's own, where what it makes holds nothing but plain values and its own memory -/
mutual
def plT : V → Bool
  | .s _ => true
  | .z => true
  | .l _ els => plTss els
  | .lp cs => plTs cs
  | _ => false
def plTs : List V → Bool
  | [] => true
  | x :: xs => plT x && plTs xs
def plTss : List (List V) → Bool
  | [] => true
  | el :: els => plTs el && plTss els
end
theorem plTss_map {α : Type} {f : α → List V} (hf : ∀ a, plTs (f a) = true) : ∀ l : List α, plTss (l.map f) = true
  | [] => rfl
  | a :: l => by simp [plTss, hf a, plTss_map hf l]
mutual
theorem T.plain {z z' : Zm} {w : World} : ∀ (x : V) (v : Value) (fp : Fp), plT x = true → T z w x v fp → T z' w x v fp
  | .l n els, v, fp, hp, r => by
    simp only [T] at *
    simp only [plT] at hp
    rcases r with r | ⟨k, c, ty, cap, fq, h1, h2, h3, h4, h5, rfl, h7⟩
    · exact .inl r
    · exact .inr ⟨k, c, ty, cap, fq, h1, h2, h3, h4, h5, rfl, Tss.plain n els _ fq hp h7⟩
  | .lp cs, v, fp, hp, r => by
    simp only [T] at *
    simp only [plT] at hp
    obtain ⟨k, c, ty, fq, h1, h2, h3, rfl, h5⟩ := r
    exact ⟨k, c, ty, fq, h1, h2, h3, rfl, Ts.plain cs _ fq hp h5⟩
  | .s a, v, fp, hp, r => by simp only [T, RZ] at *; exact r
  | .z, v, fp, hp, r => by simp only [T, RZ] at *; exact r
  | .any, v, fp, hp, r => by simp [plT] at hp
  | .f n els, v, fp, hp, r => by simp [plT] at hp
  | .pd cs, v, fp, hp, r => by simp [plT] at hp
  | .fn f caps, v, fp, hp, r => by simp [plT] at hp
  | .sl _ _ _ _, v, fp, hp, r => by simp [T] at r
  | .ptr _ _ _, v, fp, hp, r => by simp [T] at r
  | .agg _, v, fp, hp, r => by simp [T] at r
  | .tup _, v, fp, hp, r => by simp [T] at r
theorem Ts.plain {z z' : Zm} {w : World} : ∀ (xs : List V) (vs : List Value) (fp : Fp), plTs xs = true → Ts z w xs vs fp → Ts z' w xs vs fp
  | [], vs, fp, hp, r => by simp only [Ts] at *; exact r
  | x :: xs, vs, fp, hp, r => by
    simp only [Ts] at *
    simp only [plTs, Bool.and_eq_true] at hp
    obtain ⟨v, t, f1, f2, rfl, rfl, h3, h4⟩ := r
    exact ⟨v, t, f1, f2, rfl, rfl, T.plain x v f1 hp.1 h3, Ts.plain xs t f2 hp.2 h4⟩
theorem Tss.plain {z z' : Zm} {w : World} (n : Nat) : ∀ (els : List (List V)) (vs : List Value) (fp : Fp), plTss els = true → Tss z w n els vs fp → Tss z' w n els vs fp
  | [], vs, fp, hp, r => by simp only [Tss] at *; exact r
  | el :: els, vs, fp, hp, r => by
    simp only [Tss] at *
    simp only [plTss, Bool.and_eq_true] at hp
    obtain ⟨h0, f1, f2, rfl, h3, h4⟩ := r
    exact ⟨h0, f1, f2, rfl, Ts.plain el vs f1 hp.1 h3, Tss.plain n els (vs.drop n) f2 hp.2 h4⟩
end
theorem dc_plT {φ φ' : Phi} {w : World} {x : V} {v : Value} {fp : Fp} (hp : plT x = true) (h : Dc φ w x v fp) : Dc φ' w x v fp := by
  rcases h with ⟨h, rfl⟩ | h
  · cases x with
    | s a => exact .inl ⟨by simp only [RelC, RelP, RZ] at h ⊢; exact h, rfl⟩
    | z => exact .inl ⟨by simp only [RelC, RelP, RZ] at h ⊢; exact h, rfl⟩
    | l n els => simp [RelC, RelP, RZ] at h
    | lp cs => simp [RelC, RelP, RZ] at h
    | _ => simp [plT] at hp
  · exact .inr (T.plain x v fp hp h)
theorem ls_plT {φ φ' : Phi} {w : World} : ∀ {el : List V} {vs : List Value} {fp : Fp}, plTs el = true → Ls (Dc φ w) el vs fp → Ls (Dc φ' w) el vs fp
  | [], vs, fp, hp, h => by simp only [Ls] at *; exact h
  | x :: xs, vs, fp, hp, h => by
    simp only [Ls] at *
    simp only [plTs, Bool.and_eq_true] at hp
    obtain ⟨v, r, f1, f2, e1, e2, h1, h2⟩ := h
    exact ⟨v, r, f1, f2, e1, e2, dc_plT hp.1 h1, ls_plT hp.2 h2⟩
theorem lss_plT {φ φ' : Phi} {w : World} {n : Nat} : ∀ {els : List (List V)} {vs : List Value} {fp : Fp}, plTss els = true → Lss (Dc φ w) n els vs fp → Lss (Dc φ' w) n els vs fp
  | [], vs, fp, hp, h => by simp only [Lss] at *; exact h
  | el :: els, vs, fp, hp, h => by
    simp only [Lss] at *
    simp only [plTss, Bool.and_eq_true] at hp
    obtain ⟨h0, f1, f2, e, h1, h2⟩ := h
    exact ⟨h0, f1, f2, e, ls_plT hp.1 h1, lss_plT hp.2 h2⟩
section
variable {C : Cx}
theorem CallsV.lendT {f : Nat} {args args' : List V} {R0 : Res → H → Prop} (p : CallsV C f args [] R0) (hz : ∀ r h', R0 r h' → zfR r = true ∧ h'.all (fun B => plTss B.els) = true) (d : Nat) (H : H) (ha : args = args'.map (Go.W.frz 0 d H)) :
    CallsV C f args' H fun res h' => ∃ r h1, R0 r h1 ∧ res = rnRes (fun b => H.length + b) r ∧ h' = H ++ h1 := by
  intro S w0 φ vs w G R hargs
  obtain ⟨φ', R', E', _, m'⟩ := Arr.frz (n0 := 0) d S w0 φ w R (Nat.zero_le _)
  have R0' : Rel (fun _ => False) w ⟨fun _ => none, φ'.z⟩ [] w := by
    obtain ⟨F', R'⟩ := R'
    exact ⟨fun _ => [], Kept.refl _ _, fun _ _ => rfl, R'.zok, fun _ _ _ h => by simp at h, fun _ _ h => by simp at h, fun _ => List.nodup_nil, fun _ _ _ h => by simp at h, fun _ _ => rfl, fun b B h => by simp at h⟩
  have hargs' : All2 (RelV ⟨fun _ => none, φ'.z⟩) args vs.toList := by
    subst ha
    refine all2_map.2 (hargs.mono fun x v rv => ?_)
    have := m' x (Go.W.frz 0 d H x) v (.inr rfl) rv
    have hc := (frz_closed (fun b => H.length + b) 0 H d x).2.2.2
    rw [← hc] at this
    have hrn : Rn (fun b => H.length + b) φ' ⟨fun _ => none, φ'.z⟩ := ⟨fun b q e => by
      obtain ⟨F', R'⟩ := R'
      have hd := R'.dom (H.length + b) (by simp [killFrom])
      rw [hd] at e; exact absurd e (by simp), FLe.refl _⟩
    exact hrn.v this
  refine (p (fun _ => False) w ⟨fun _ => none, φ'.z⟩ vs w (G.mono E'.z) R0' hargs').mono fun e w1 ⟨res, φ1, h1, q1, q2, q3, q4, q5⟩ => ?_
  obtain ⟨F1, R1⟩ := q2
  obtain ⟨F, R⟩ := R
  obtain ⟨z1, z2⟩ := hz _ _ q5
  have gr : w.grownBy w1 none := ⟨R1.kept.os, R1.kept.tape, R1.kept.output, R1.kept.size, fun k hk _ => R1.kept.block k hk id⟩
  have new : ∀ b k, k ∈ F1 b → w.heap.size ≤ k := fun b k hk => by
    rcases (R1.mine b k hk).1 with q | q
    · exact q.elim
    · exact q
  have old : ∀ b k, k ∈ F b → k < w.heap.size := fun b k hk => (R.mine b k hk).2
  let φ2 : Phi := ⟨fun b => if b < H.length then φ.m b else φ1.m (b - H.length), φ.z⟩
  have m1 : ∀ b, b < H.length → φ2.m b = φ.m b := fun b hb => by show (if b < H.length then _ else _) = _; rw [if_pos hb]
  have m2 : ∀ b, φ2.m (H.length + b) = φ1.m b := fun b => by show (if H.length + b < H.length then _ else _) = _; rw [if_neg (by omega), show H.length + b - H.length = b by omega]
  have he : Ext φ φ2 := ⟨fun b p hb => by
    by_cases q : b < H.length
    · rw [m1 b q]; exact hb
    · have := R.dom b (by omega)
      rw [this] at hb; exact absurd hb (by simp), FLe.refl _⟩
  have Rg := R.grow gr
  refine ⟨rnRes (fun b => H.length + b) res, φ2, H ++ h1, ?_, ⟨fun b => if b < H.length then F b else F1 (b - H.length), Rg.kept, ?_, Rg.zok, ?_, ?_, ?_, ?_, ?_, ?_⟩, ⟨fun b hb => m1 b hb, FLe.refl _, fun _ _ _ e => .inl e⟩, by simp, res, h1, q5, rfl, rfl⟩
  · cases res with
    | ret v =>
      obtain ⟨cv, e1, rv⟩ := q1
      exact ⟨cv, e1, zfV_rel (fun b q hb => by rw [m2]; exact hb) z1 rv⟩
    | pan v => simp [zfR] at z1
  · intro b hb
    simp only [List.length_append] at hb
    have : b = H.length + (b - H.length) := by omega
    rw [this, m2]; exact R1.dom _ (by omega)
  · intro b k o hk
    by_cases q : b < H.length
    · simp only [q, if_true] at hk; exact R.znot b k o hk
    · simp only [q, if_false] at hk
      have h2 := new _ _ hk
      cases e : φ2.z k o with
      | none => rfl
      | some v =>
        have := World.block_lt_of_cell? _ _ (R.zok k o v e)
        simp only at this; omega
  · intro b k hk
    by_cases q : b < H.length
    · simp only [q, if_true] at hk; exact Rg.mine b k hk
    · simp only [q, if_false] at hk
      exact ⟨.inr (Nat.le_trans R.kept.size (new _ _ hk)), (R1.mine _ k hk).2⟩
  · intro b
    by_cases q : b < H.length
    · simp only [q, if_true]; exact R.nodup b
    · simp only [q, if_false]; exact R1.nodup _
  · intro b b' k hk hk'
    by_cases q : b < H.length <;> by_cases q' : b' < H.length <;> simp only [q, q', if_true, if_false] at hk hk'
    · exact R.disj b b' k hk hk'
    · have := old _ _ hk; have := new _ _ hk'; omega
    · have := old _ _ hk'; have := new _ _ hk; omega
    · have := R1.disj _ _ k hk hk'; omega
  · intro b hb
    simp only [List.length_append] at hb
    simp only [show ¬ b < H.length by omega, if_false]
    exact R1.out _ (by omega)
  · intro b B hB
    by_cases q : b < H.length
    · simp only [q, if_true]
      rw [List.getElem?_append_left q] at hB
      exact (Rg.blk b B hB).keep he fun _ _ => rfl
    · simp only [q, if_false]
      rw [List.getElem?_append_right (by omega)] at hB
      have hr := R1.blk _ B hB
      have hp : plTss B.els = true := List.all_eq_true.1 z2 B (List.mem_of_getElem? hB)
      unfold BlkRel at hr ⊢
      split
      · rename_i hl
        rw [if_pos hl] at hr
        obtain ⟨p, k1, k2, k3, k4⟩ := hr
        refine ⟨p, by rw [← m2, show H.length + (b - H.length) = b by omega] at k1; exact k1, k2, k3, ?_⟩
        cases p with
        | none => exact k4
        | some k =>
          obtain ⟨c, ty, fq, r1, r2, r3, r4, r5⟩ := k4
          exact ⟨c, ty, fq, r1, r2, r3, lss_plT hp r4, r5⟩
      · rename_i hl
        rw [if_neg hl] at hr; exact hr
end
end Go.W
/- part W53 -/
set_option linter.unusedVariables false
set_option linter.unusedSimpArgs false
namespace Go.W
open Go Go.RowKit

/-! ### What a cell refers to is forgotten -/
def anyC (x x' : V) : Prop := x' = x ∨ (nr x = false ∧ x' = .any)
theorem ls_any {φ : Phi} {w : World} : ∀ {el el' : List V} {vs : List Value} {fp : Fp}, All2 anyC el el' → Ls (Dc φ w) el vs fp → Ls (Dc φ w) el' vs fp
  | [], [], vs, fp, _, h => h
  | x :: xs, x' :: xs', vs, fp, a, h => by
    simp only [Ls] at *
    obtain ⟨v, r, f1, f2, e1, e2, h1, h2⟩ := h
    refine ⟨v, r, f1, f2, e1, e2, ?_, ls_any a.2 h2⟩
    rcases a.1 with e | ⟨en, es⟩
    · rw [e]; exact h1
    · subst es
      rcases h1 with ⟨q, e⟩ | q
      · exact .inl ⟨by simp [RelC, RelP, RZ], e⟩
      · cases x <;> first | (simp [nr] at en; done) | (simp [T] at q; done) | exact .inr (by simp only [T] at q ⊢; exact q) | exact .inr (by simp only [T] at q ⊢; exact q.2)
  | [], _ :: _, _, _, a, _ => a.elim
  | _ :: _, [], _, _, a, _ => a.elim
theorem lss_any {φ : Phi} {w : World} {n : Nat} : ∀ {els els' : List (List V)} {vs : List Value} {fp : Fp}, All2 (All2 anyC) els els' → Lss (Dc φ w) n els vs fp → Lss (Dc φ w) n els' vs fp
  | [], [], vs, fp, _, h => h
  | x :: xs, x' :: xs', vs, fp, a, h => by
    simp only [Lss] at *
    obtain ⟨h0, f1, f2, e2, h1, h2⟩ := h
    exact ⟨by rw [← all2_length a.1]; exact h0, f1, f2, e2, ls_any a.1 h1, lss_any a.2 h2⟩
  | [], _ :: _, _, _, a, _ => a.elim
  | _ :: _, [], _, _, a, _ => a.elim
section
variable {h : H} {n0 : Nat}
theorem Arr.anyCell {b n cap : Nat} {els els' : List (List V)} (hb : h[b]? = some ⟨els, n, cap, true⟩) (ha : All2 (All2 anyC) els els') : Arr n0 h (h.set b ⟨els', n, cap, true⟩) fun x x' => x' = x := by
  intro S w0 φ w ⟨F, R⟩ hn
  have hblt : b < h.length := (List.getElem?_eq_some_iff.1 hb).1
  obtain ⟨p, k1, k2, k3, k4⟩ := R.place hb rfl
  simp only at k1 k2 k3
  have hlen := all2_length ha
  have hB : BlkRel φ w b ⟨els', n, cap, true⟩ (F b) := by
    unfold BlkRel; rw [if_pos rfl]
    refine ⟨p, k1, fun el hel => ?_, by simp only; omega, ?_⟩
    · obtain ⟨x, hx, a⟩ := all2_memR ha el hel
      rw [← all2_length a]; exact k2 x hx
    cases p with
    | none =>
      obtain ⟨e1, e2, e3⟩ := k4
      simp only at e1 e2
      refine ⟨?_, e2, e3⟩
      cases els' with
      | nil => rfl
      | cons _ _ => rw [e1] at hlen; simp at hlen
    | some k =>
      obtain ⟨c, ty, fq, q1, q2, q3, q4, q5⟩ := k4
      simp only at q2 q3 q4
      exact ⟨c, ty, fq, q1, q2, by simp only; omega, lss_any ha q4, q5⟩
  refine ⟨φ, ⟨_, R.step (w' := w) (bo := b) (b0 := b) (B0 := ⟨els', n, cap, true⟩) (fp0 := F b) (Ext.refl _) rfl R.kept (Nat.le_refl _) (by simp; omega) (by simp) (fun i hi => R.dom i (by simpa using hi)) (fun _ _ _ => rfl) (.inl rfl) ?_
    (fun q => absurd rfl q) (fun i h1 h2 => by rw [List.getElem?_set_ne (Ne.symm h1)]) (fun k hk => .inl hk) (fun k hk => (R.mine b k hk).2) (R.nodup b) hB⟩, ExtN.refl .., by simpa using hn, fun x x' v hm r => by subst hm; exact r⟩
  rw [List.getElem?_set_self hblt]
/-- In block b the element i holds nothing that is told. -/
def anyE (el : List V) : List V := el.map fun x => if nr x = true then x else .any
def fgt1 (h : H) (b i : Nat) : Option Blk → H
  | some ⟨els, n, cap, true⟩ => h.set b ⟨els.set i (anyE ((els[i]?).getD [])), n, cap, true⟩
  | _ => h
def forgets (h : H) : List (Nat × Nat) → H
  | [] => h
  | (b, i) :: r => forgets (fgt1 h b i (h[b]?)) r
theorem anyE_all : ∀ el : List V, All2 anyC el (anyE el)
  | [] => trivial
  | x :: xs => ⟨by
      show anyC x (if nr x = true then x else .any)
      by_cases q : nr x = true
      · rw [if_pos q]; exact .inl rfl
      · rw [if_neg q]; exact .inr ⟨by simpa using q, rfl⟩, anyE_all xs⟩
theorem anyC_refl : ∀ el : List V, All2 anyC el el
  | [] => trivial
  | x :: xs => ⟨.inl rfl, anyC_refl xs⟩
theorem anyS_all : ∀ (els : List (List V)) (i : Nat), All2 (All2 anyC) els (els.set i (anyE ((els[i]?).getD [])))
  | [], _ => trivial
  | el :: els, 0 => ⟨by simpa using anyE_all el, by
      induction els with
      | nil => trivial
      | cons x xs ih => exact ⟨anyC_refl x, ih⟩⟩
  | el :: els, i + 1 => ⟨anyC_refl el, by simpa using anyS_all els i⟩
theorem Arr.forgets (n0 : Nat) : ∀ (l : List (Nat × Nat)) (h : H), Arr n0 h (Go.W.forgets h l) fun x x' => x' = x
  | [], h => (Arr.refl n0 h).mono fun x x' e => .inl e
  | (b, i) :: r, h => by
    have one : Arr n0 h (fgt1 h b i (h[b]?)) fun x x' => x' = x := by
      unfold fgt1
      split
      · rename_i hb; exact Arr.anyCell hb (anyS_all _ i)
      · exact (Arr.refl n0 h).mono fun x x' e => .inl e
    exact (one.trans (Arr.forgets n0 r _)).mono fun x x' e => ⟨x, rfl, e⟩
end
section
variable {C : Cx} {N m n0 : Nat} {Q : QT} {k : List It} {τ : Tau} {h : H}
theorem Goes.foldA {K : Tau → H → Prop} (sh fg : List (Nat × Nat)) (fl : List (Nat × Nat × Nat)) (l : List Nat) (T : List (Nat × V)) (h' : H) (hn : (livesOf l h').Nodup) (hr : l.take n0 = List.range n0) (hg : gcLM (nm l (folds (forgets (shrinks h sh) fg) fl).length) (folds (forgets (shrinks h sh) fg) fl) l h') (ht : keepT τ (nm l (folds (forgets (shrinks h sh) fg) fl).length) T)
    (hk : K (keepL T) h') : Goes n0 K τ h :=
  ⟨_, h', _, (((Arr.shrinks n0 sh h).trans (Arr.forgets n0 fg _)).trans (Arr.folds n0 fl _)).trans (Arr.gcM (gcOkM_of hn hr hg)), fun t => ⟨_, ⟨_, ⟨_, rfl, rfl⟩, rfl⟩, keepT_spec ht t⟩, hk⟩
def FoldA (n0 : Nat) {ι : Type} (P : ι → Prop) (T : ι → List (Nat × V)) (Hp : ι → H) (τ : Tau) (h : H) : Prop :=
  ∃ i, P i ∧ ∃ (sh fg : List (Nat × Nat)) (fl : List (Nat × Nat × Nat)) (l : List Nat), ((livesOf l (Hp i)).Nodup ∧ l.take n0 = List.range n0) ∧ gcLM (nm l (folds (forgets (shrinks h sh) fg) fl).length) (folds (forgets (shrinks h sh) fg) fl) l (Hp i) ∧ keepT τ (nm l (folds (forgets (shrinks h sh) fg) fl).length) (T i)
theorem LoopThen.ownA (n0 : Nat) {ι : Type} {body : Code} (P : ι → Prop) (T : ι → List (Nat × V)) (Hp : ι → H) (μ : ι → Nat) (m n : Nat) (h0 : FoldA n0 P T Hp τ h)
    (hr : ∀ i, P i → Run C N n0 n (loopN C N n0 m Q k (FoldA n0 (fun j => P j ∧ μ j < μ i) T Hp)) [.code body] (keepL (T i)) (Hp i)) : LoopThen C N n0 Q body k τ h := by
  classical
  intro hb hk
  let I : Tau → H → Prop := fun τ h => ∃ i, P i ∧ τ = keepL (T i) ∧ h = Hp i
  have nat_min : ∀ (p : Nat → Prop) (n : Nat), p n → ∃ n, p n ∧ ∀ m, p m → n ≤ m := by
    intro p n hn
    induction n using Nat.strongRecOn with
    | _ n ih =>
      by_cases q : ∃ m, m < n ∧ p m
      · obtain ⟨m, h1, h2⟩ := q; exact ih m h1 h2
      · exact ⟨n, hn, fun m hm => Nat.le_of_not_lt fun h => q ⟨m, h, hm⟩⟩
  let R : Tau → H → Nat → Prop := fun τ h n => ∃ i, P i ∧ τ = keepL (T i) ∧ h = Hp i ∧ μ i = n
  let M : Tau → H → Nat := fun τ h => if q : ∃ n, R τ h n then Classical.choose (nat_min (R τ h) _ (Classical.choose_spec q)) else 0
  have hM : ∀ τ h, I τ h → ∃ i, P i ∧ τ = keepL (T i) ∧ h = Hp i ∧ μ i = M τ h ∧ ∀ j, P j → τ = keepL (T j) → h = Hp j → M τ h ≤ μ j := by
    intro τ h ⟨i, h1, h2, h3⟩
    have q : ∃ n, R τ h n := ⟨μ i, i, h1, h2, h3, rfl⟩
    have e : M τ h = Classical.choose (nat_min (R τ h) _ (Classical.choose_spec q)) := dif_pos q
    have sp := Classical.choose_spec (nat_min (R τ h) _ (Classical.choose_spec q))
    rw [← e] at sp
    obtain ⟨⟨j, j1, j2, j3, j4⟩, j5⟩ := sp
    exact ⟨j, j1, j2, j3, j4, fun i' q1 q2 q3 => j5 (μ i') ⟨i', q1, q2, q3, rfl⟩⟩
  refine WC.loop I M ?_ fun τ h hI => ?_
  · obtain ⟨i, h1, sh, fg, fl, l, ⟨h2, h2'⟩, h3, h4⟩ := h0
    exact Goes.foldA sh fg fl l (T i) (Hp i) h2 h2' h3 h4 ⟨i, h1, rfl, rfl⟩
  · obtain ⟨i, p1, e1, e2, e3, _⟩ := hM τ h hI
    subst e1; subst e2
    have := Run_sound n _ [.code body] (keepL (T i)) (Hp i) (by simp [itOk, hb]) (hr i p1)
    refine WC.mono this fun x τ' h' q => ?_
    cases x with
    | normal =>
      obtain ⟨j, ⟨q1, q2⟩, sh, fg, fl, l, ⟨q3, q3'⟩, q4, q5⟩ := q
      refine Goes.foldA sh fg fl l (T j) (Hp j) q3 q3' q4 q5 ⟨⟨j, q1, rfl, rfl⟩, ?_⟩
      obtain ⟨j', _, _, _, _, r4⟩ := hM (keepL (T j)) (Hp j) ⟨j, q1, rfl, rfl⟩
      have := r4 j q1 rfl rfl
      omega
    | exit id =>
      refine semK_exit ?_
      simp only [SemK, loopN] at q
      cases hp : popTo id k with
      | none => rw [hp] at q; exact q
      | some k' => rw [hp] at q; exact Run_sound m Q k' τ' h' (popTo_ok hp hk) q
    | ret => exact semK_ret q
    | pan v => exact semK_pan q
end
end Go.W
/- part S26 -/
set_option linter.unusedVariables false
set_option linter.unusedSimpArgs false
set_option maxRecDepth 100000
namespace Go.Proofs.YtijefmjfdhfjmaaDoor
open Go Go.W Go.RowKit
/-! ### Where a function is right, all of its instructions are reached -/
def isAt (ats : Ats) (i : Nat) : Prop := ∃ a, ats[i]? = some (some a)
theorem reachE_at {ats ats' : Ats} {to : Nat} {now : At} {i : Nat} (h : reachE ats to now = .ok ats') (ha : isAt ats i) : isAt ats' i := by
  obtain ⟨a, ha⟩ := ha
  have hi : i < ats.length := (List.getElem?_eq_some_iff.1 ha).1
  unfold reachE at h
  split at h
  · cases h
  · cases h
    by_cases e : to = i
    · subst e; exact ⟨now, by rw [List.getElem?_set_self hi]⟩
    · exact ⟨a, by rw [List.getElem?_set_ne e]; exact ha⟩
  · rename_i t ht
    split at h
    · cases h
      by_cases e : to = i
      · subst e; exact ⟨_, by rw [List.getElem?_set_self hi]⟩
      · exact ⟨a, by rw [List.getElem?_set_ne e]; exact ha⟩
    · cases h
theorem lookE_at {fs : List IFun} {f : IFun} {k : Nat} {x : Ins} {ats ats' : Ats} {now : At} {i : Nat} (h : lookE fs f k x ats now = .ok ats') (ha : isAt ats i) : isAt ats' i := by
  unfold lookE at h
  split at h
  · cases h
  split at h
  · split at h
    · cases h; exact ha
    · cases h
  split at h
  · cases h
  · split at h
    · exact reachE_at h ha
    split at h
    · split at h
      · rename_i h1; exact reachE_at h (reachE_at h1 ha)
      · cases h
    · exact reachE_at h ha
theorem allE_at {fs : List IFun} {f : IFun} : ∀ {l : List Ins} {k : Nat} {ats ats' : Ats}, allE fs f l k ats = .ok ats' → (∀ i, i < k → isAt ats i) → ats'.length = ats.length ∧ ∀ i, i < k + l.length → isAt ats' i
  | [], k, ats, ats', h, hk => by simp only [allE] at h; cases h; exact ⟨rfl, fun i hi => hk i (by simpa using hi)⟩
  | x :: r, k, ats, ats', h, hk => by
    simp only [allE] at h
    split at h
    · rename_i now hn
      split at h
      · rename_i ats1 h1
        have hl : ats1.length = ats.length := by
          unfold lookE at h1
          split at h1
          · cases h1
          split at h1
          · split at h1
            · cases h1; rfl
            · cases h1
          split at h1
          · cases h1
          · split at h1
            · exact reachE_len h1
            split at h1
            · split at h1
              · rename_i h2; exact (reachE_len h1).trans (reachE_len h2)
              · cases h1
            · exact reachE_len h1
        obtain ⟨g1, g2⟩ := allE_at h (fun i hi => by
          by_cases e : i < k
          · exact lookE_at h1 (hk i e)
          · obtain rfl : i = k := by omega
            exact lookE_at h1 ⟨now, hn⟩)
        exact ⟨g1.trans hl, fun i hi => g2 i (by simp at hi; omega)⟩
      · cases h
    · cases h
theorem sureE_at {fs : List IFun} {f : IFun} {ats : Ats} (h : sureE fs f = .ok ats) : ats.length = f.code.length ∧ ∀ i, i < f.code.length → isAt ats i := by
  unfold sureE at h
  split at h
  · cases h
  split at h
  · cases h
  · rename_i h1 h2
    obtain ⟨g1, g2⟩ := allE_at h (fun i hi => by omega)
    have : 0 < f.code.length := List.length_pos_iff.2 h2
    exact ⟨by rw [g1]; simp; omega, fun i hi => g2 i (by omega)⟩
def stkOf (o : Option At) : List Int := (o.map (·.stack)).getD []
/-- The stacks ahead of a function's instructions. -/
def stackE (m : Img) (fn : Int) : Option (List (List Int)) :=
  if imgB m = true ∧ 0 ≤ fn then (match m.funs[fn.toNat]? with
    | some f => (match sureE m.funs f with
      | .ok ats => some (ats.map stkOf)
      | .error _ => none)
    | none => none)
  else none
def lV (s : List Int) : List V := [.l 1 (s.map iV)]
theorem lV_nr (s : List Int) : (lV s).all nr = true := rfl
theorem lV_pl (s : List Int) : plTs (lV s) = true := by
  simp only [lV, plTs, plT, Bool.and_true]
  exact plTss_map (fun _ => rfl) s
def stkR (m : Img) (fn : Int) (res : Res) (h' : H) : Prop := match stackE m fn with
  | some l => ∃ cap, l.length ≤ cap ∧ res = .ret (.tup [.sl 0 0 l.length cap, .s (.bool true)]) ∧ h' = [⟨l.map lV, 1, cap, true⟩]
  | none => res = .ret (.tup [.z, .s (.bool false)]) ∧ h' = []
theorem rn_anyB (ρ : Nat → Nat) (i : Nat) (l : Ats) (c : Nat) : rnB ρ ⟨List.replicate i [V.any] ++ l.map atC, 1, c, true⟩ = ⟨List.replicate i [V.any] ++ l.map atC, 1, c, true⟩ := by
  have e : (l.map atC).map (fun el => el.map (rnC ρ)) = l.map atC := congrArg Blk.els (rnB_ats ρ l)
  show Blk.mk ((List.replicate i [V.any] ++ l.map atC).map fun el => el.map (rnC ρ)) 1 c true = _
  rw [List.map_append, e, List.map_replicate]; rfl
theorem calls12 (m : Img) (fn : Int) (hk : m.funs.length ≤ 1048576) (hm : m.mains.length ≤ 1048576) (hs : sizeN m.funs ≤ 1048576) : CallsV C 12 [.agg (imgV m), .s (.int .i64 fn)] [] (stkR m fn) := by
  refine calls_of_run Tryd.func12 rfl (by kernel_rfl) (by kernel_rfl) (by simp) 1000 ?_
  have fin0 : ∀ h, stackE m fn = none → Up 0 (stkR m fn) (.ret (.tup [.z, .s (.bool false)])) h := fun h e =>
    Up.gcF (.tup [.z, .s (.bool false)]) [] [] [] [] (by simp) rfl trivial rfl (by simp only [stkR, e]; exact ⟨trivial, trivial⟩)
  simp +contextual (maxSteps := 2000000) (disch := ((try unfold LIM at *); omega)) only [↓bcase_true, ↓bcase_false, WA, simprocAttr, wrap_i64, imgV]
  refine CallThen.pure (walk23 m hk hm hs) 1000 ?_
  cases c1 : imgB m
  · have e : stackE m fn = none := by simp [stackE, c1]
    simp +contextual (maxSteps := 2000000) (disch := ((try unfold LIM at *); omega)) only [↓bcase_true, ↓bcase_false, WA, simprocAttr, wrap_i64, c1]
    exact fin0 _ e
  obtain ⟨i1, i2, i3, i4⟩ := imgB_all c1
  simp +contextual (maxSteps := 2000000) (disch := ((try unfold LIM at *); omega)) only [↓bcase_true, ↓bcase_false, WA, simprocAttr, wrap_i64, c1, List.length_map]
  intro _
  refine CallThen.pure (walk27 fn m.funs.length hk) 1000 ?_
  cases c2 : rangeB fn 0 ((m.funs.length : Int) - 1)
  · have e : stackE m fn = none := by
      simp only [rangeB, Bool.and_eq_false_iff, decide_eq_false_iff_not] at c2
      unfold stackE
      split
      · rename_i h
        rw [List.getElem?_eq_none (by omega)]
      · rfl
    simp +contextual (maxSteps := 2000000) (disch := ((try unfold LIM at *); omega)) only [↓bcase_true, ↓bcase_false, WA, simprocAttr, wrap_i64, c2]
    exact fin0 _ e
  have c2' : 0 ≤ fn ∧ fn < m.funs.length := by
    simp only [rangeB, Bool.and_eq_true, decide_eq_true_eq] at c2; omega
  obtain ⟨k, rfl⟩ : ∃ k : Nat, fn = k := ⟨fn.toNat, by omega⟩
  obtain ⟨f, hf⟩ : ∃ f, m.funs[k]? = some f := ⟨m.funs[k]'(by omega), List.getElem?_eq_getElem (by omega)⟩
  have es : stackE m k = match sureE m.funs f with
      | .ok ats => some (ats.map stkOf)
      | .error _ => none := by
    unfold stackE
    rw [if_pos ⟨c1, by omega⟩, Int.toNat_natCast, hf]
    all_goals rfl
  simp +contextual (maxSteps := 2000000) (disch := ((try unfold LIM at *); omega)) only [↓bcase_true, ↓bcase_false, WA, simprocAttr, wrap_i64, c2]
  refine CallThen.of 1000 (CallsV.frameL (calls24 m k f hf i1 i2) [] _ (by simp) trivial rfl) fun res h' hx => ?_
  obtain ⟨r, h1, q1, q2, q3, q4⟩ := hx
  subst q3; subst q4
  cases e : sureE m.funs f with
  | error c =>
    rw [e] at es
    simp only [surelyR, e] at q1
    obtain ⟨rfl, rfl⟩ := q1
    have nz : decide (c.1 = 0) = false := decide_eq_false (sureE_nz e)
    simp +contextual (maxSteps := 2000000) (disch := ((try unfold LIM at *); omega)) only [↓bcase_true, ↓bcase_false, WA, simprocAttr, wrap_i64, rnRes, eqS28, fk28, kk28, nz, Bool.false_and, Bool.not_false]
    exact fin0 _ es
  | ok ats =>
    rw [e] at es
    simp only [surelyR, e] at q1
    obtain ⟨rfl, rfl⟩ := q1
    simp +contextual (maxSteps := 2000000) (disch := ((try unfold LIM at *); omega)) only [↓bcase_true, ↓bcase_false, WA, simprocAttr, wrap_i64, rnRes, rnB_ats, eqS28, fk28, kk28, List.length_map]
    obtain ⟨al, aat⟩ := sureE_at e
    have hfc : f.code.length ≤ 460 := (okF_facts (List.all_eq_true.1 i1 f (List.mem_of_getElem? hf))).2.2.2.1
    refine LoopThen.ownA 0 (ι := Nat × Nat) (fun s => s.1 ≤ ats.length ∧ s.1 ≤ s.2) (fun s => [(8, .sl 1 0 s.1 s.2), (32, .sl 0 0 ats.length ats.length), (33, .s (.int .i64 ats.length)), (34, .s (.int .i64 s.1))])
      (fun s => [⟨List.replicate s.1 [V.any] ++ (ats.drop s.1).map atC, 1, ats.length, true⟩, ⟨((ats.take s.1).map stkOf).map lV, 1, s.2, true⟩]) (fun s => ats.length - s.1) 1000 1000
      ⟨(0, 0), ⟨Nat.zero_le _, Nat.le_refl _⟩, [], [], [], [1, 3], ⟨(show List.Nodup [1, 3] by decide), rfl⟩, ⟨.inr (.inl ⟨ats_nr _, rfl⟩), .inr (.inl ⟨rfl, rfl⟩), trivial⟩, by simp +contextual (maxSteps := 2000000) (disch := ((try unfold LIM at *); omega)) only [↓bcase_true, ↓bcase_false, WA, simprocAttr, wrap_i64]⟩ ?_
    rintro ⟨i, c⟩ ⟨p1, p2⟩
    simp only at p1 p2
    by_cases c4 : (i : Int) < ats.length
    · obtain ⟨a, ha⟩ := aat i (by omega)
      have pi : (0 : Int) ≤ i := by omega
      have la : (List.replicate i [V.any]).length = i := by simp
      have ll : ((List.map lV (List.map stkOf (List.take i ats)))).length = i := by simp; omega
      have g1 : ∀ y (X : List (List V)), (List.replicate i [V.any] ++ y :: X)[i]? = some y := fun y X => mid_get la
      have g2 : ∀ x y (X : List (List V)), (List.replicate i [V.any] ++ y :: X).set i x = List.replicate i [V.any] ++ x :: X := fun x y X => mid_set la
      have hd : (ats.drop i).map atC = [.lp [.l 1 (a.stack.map iV), .l 1 (a.slots.map iV)]] :: (ats.drop (i + 1)).map atC := by rw [drop_cons ha]; rfl
      have l2 : (List.take i ats).length = i := by simp; omega
      simp +contextual (maxSteps := 2000000) (disch := ((try unfold LIM at *); omega)) only [↓bcase_true, ↓bcase_false, WA, simprocAttr, wrap_i64, c4, hd, g1, g2, pi, List.length_map, l2, cast_succ]
      intro cap hcap
      refine ⟨⟨by omega, by unfold LIM; omega⟩, fun cap' hc' _ => ?_⟩
      refine ⟨(i + 1, cap'), ⟨⟨by simp only; omega, hc'⟩, by simp only; omega⟩, [], [(0, i)], [(5, i, 0)], [0, 5], ⟨(show List.Nodup [0, 5] by decide), rfl⟩, ?_, by simp +contextual (maxSteps := 2000000) (disch := ((try unfold LIM at *); omega)) only [↓bcase_true, ↓bcase_false, WA, simprocAttr, wrap_i64, folds_length, nm_at]⟩
      have f1 : forgets (shrinks [⟨List.replicate i [V.any] ++ [V.ptr 2 0 0] :: List.map atC (List.drop (i + 1) ats), 1, ats.length, true⟩, Blk.dead, ⟨[[V.sl 3 0 a.stack.length cap, V.l 1 (List.map iV a.slots)]], 2, 1, true⟩, ⟨List.map iV a.stack, 1, cap, true⟩, ⟨[[V.sl 3 0 a.stack.length cap]], 1, 1, true⟩,
          ⟨List.map lV (List.map stkOf (List.take i ats)) ++ [[V.sl 3 0 a.stack.length cap]], 1, cap', true⟩] []) [(0, i)] = [⟨List.replicate i [V.any] ++ [V.any] :: List.map atC (List.drop (i + 1) ats), 1, ats.length, true⟩, Blk.dead, ⟨[[V.sl 3 0 a.stack.length cap, V.l 1 (List.map iV a.slots)]], 2, 1, true⟩, ⟨List.map iV a.stack, 1, cap, true⟩, ⟨[[V.sl 3 0 a.stack.length cap]], 1, 1, true⟩,
          ⟨List.map lV (List.map stkOf (List.take i ats)) ++ [[V.sl 3 0 a.stack.length cap]], 1, cap', true⟩] := by
        simp [shrinks, forgets, fgt1, g1, g2, anyE, nr]
      rw [f1]
      rw [folds_one, foldC_sl (b1 := 3) (n1 := 1) (els1 := a.stack.map iV) rfl (mid_get ll) rfl rfl (by rw [List.length_map]) (nrs_map iV_nr _) (by simp)]
      refine ⟨.inr (.inr ?_), .inr (.inl ⟨nrs_map lV_nr _, ?_⟩), trivial⟩
      · rw [rn_anyB]
        show some _ = some _
        refine congrArg some (congrArg (fun e => (⟨e, 1, ats.length, true⟩ : Blk)) ?_)
        simp only [List.replicate_succ', List.append_assoc, List.cons_append, List.nil_append]
      · show some _ = some _
        refine congrArg some (congrArg (fun e => (⟨e, 1, cap', true⟩ : Blk)) ?_)
        rw [mid_set ll, List.take_add_one, ha]
        simp [stkOf, lV]
    · have e3 : i = ats.length := by omega
      subst e3
      simp +contextual (maxSteps := 2000000) (disch := ((try unfold LIM at *); omega)) only [↓bcase_true, ↓bcase_false, WA, simprocAttr, wrap_i64, c4]
      refine Up.gcF (.tup [.sl 0 0 ats.length c, .s (.bool true)]) [] [] [1] [⟨(ats.map stkOf).map lV, 1, c, true⟩] (by simp) rfl ⟨.inl ⟨nrs_map lV_nr _, by rw [List.take_length]; rfl⟩, trivial⟩ rfl ?_
      simp only [stkR, es]
      exact ⟨c, by simpa using p2, by simp, rfl⟩
end Go.Proofs.YtijefmjfdhfjmaaDoor
/- part S27 -/
set_option linter.unusedVariables false
set_option linter.unusedSimpArgs false
set_option maxRecDepth 100000
namespace Go.Proofs.YtijefmjfdhfjmaaDoor
open Go Go.W Go.RowKit
def fV (s : List Int) : List V := [.f 1 (s.map iV)]
def stkV (o : Option (List (List Int))) : V := match o with
  | some l => .tup [.f 1 (l.map fV), .s (.bool true)]
  | none => .tup [.z, .s (.bool false)]
theorem allE_ok {fs : List IFun} {f : IFun} {n : Nat} : ∀ {l : List Ins} {k : Nat} {ats ats' : Ats}, allE fs f l k ats = .ok ats' → AtsOk n ats → AtsOk n ats'
  | [], k, ats, ats', h, ha => by simp only [allE] at h; cases h; exact ha
  | x :: r, k, ats, ats', h, ha => by
    simp only [allE] at h
    split at h
    · rename_i now hn
      split at h
      · rename_i ats1 h1
        exact allE_ok h (lookE_ok ha (ha now (List.mem_of_getElem? hn)) h1).1
      · cases h
    · cases h
theorem sureE_ok {fs : List IFun} {f : IFun} {ats : Ats} (h : sureE fs f = .ok ats) : AtsOk f.slots.toNat ats := by
  unfold sureE at h
  split at h
  · cases h
  split at h
  · cases h
  · rename_i h1 h2
    refine allE_ok h fun a ha => ?_
    rcases List.mem_cons.1 ha with e | e
    · cases e
      refine ⟨?_, Nat.zero_le _⟩
      simp only [List.length_append, List.length_replicate]; omega
    · exact absurd (List.mem_replicate.1 e).2 (by simp)
theorem fzss_iV (l : List Int) : fzss (l.map iV) = l.map iV := by
  rw [fzss_map, List.map_map]; exact List.map_congr_left fun b _ => rfl
theorem lV_frz (n0 d : Nat) (h : H) (l : List (List Int)) : ((l.map lV).map fun el => el.map (frz n0 d h)) = l.map fV := by
  rw [List.map_map]
  refine List.map_congr_left fun s _ => ?_
  show (lV s).map (frz n0 d h) = fV s
  unfold lV fV
  simp only [List.map_cons, List.map_nil]
  cases d <;> simp only [frz, fzss_iV]
theorem walk11 (m : Img) (fn : Int) (hk : m.funs.length ≤ 1048576) (hm : m.mains.length ≤ 1048576) (hs : sizeN m.funs ≤ 1048576) : PureV C 11 [.agg (imgV m), .s (.int .i64 fn)] (stkV (stackE m fn)) := by
  refine pure_of_run Tryd.func11 rfl (by kernel_rfl) (by kernel_rfl) (by simp) (fun _ => rfl) (fun ρ => by cases stackE m fn <;> rfl) 6 1000 ?_
  simp +contextual (maxSteps := 2000000) (disch := ((try unfold LIM at *); omega)) only [↓bcase_true, ↓bcase_false, WA, simprocAttr, wrap_i64, imgV]
  refine CallThen.pure (walk19 m hk hm hs) 1000 ?_
  cases c1 : imgB m
  · have e : stackE m fn = none := by simp [stackE, c1]
    simp +contextual (maxSteps := 2000000) (disch := ((try unfold LIM at *); omega)) only [↓bcase_true, ↓bcase_false, WA, simprocAttr, wrap_i64, c1, e, stkV]
  obtain ⟨i1, i2, i3, i4⟩ := imgB_all c1
  by_cases c2 : fn < 0
  · have e : stackE m fn = none := by
      have : ¬ 0 ≤ fn := by omega
      simp [stackE, this]
    simp +contextual (maxSteps := 2000000) (disch := ((try unfold LIM at *); omega)) only [↓bcase_true, ↓bcase_false, WA, simprocAttr, wrap_i64, c1, c2, e, stkV]
  obtain ⟨k, rfl⟩ : ∃ k : Nat, fn = k := ⟨fn.toNat, by omega⟩
  by_cases c3 : (m.funs.length : Int) ≤ k
  · have e : stackE m k = none := by
      unfold stackE
      split
      · rw [Int.toNat_natCast, List.getElem?_eq_none (by omega)]
      · rfl
    simp +contextual (maxSteps := 2000000) (disch := ((try unfold LIM at *); omega)) only [↓bcase_true, ↓bcase_false, WA, simprocAttr, wrap_i64, c1, c2, c3, e, stkV, List.length_map]
  obtain ⟨f, hf⟩ : ∃ f, m.funs[k]? = some f := ⟨m.funs[k]'(by omega), List.getElem?_eq_getElem (by omega)⟩
  have es : stackE m k = match sureE m.funs f with
      | .ok ats => some (ats.map stkOf)
      | .error _ => none := by
    unfold stackE
    rw [if_pos ⟨c1, by omega⟩, Int.toNat_natCast, hf]
    all_goals rfl
  have hfc : f.code.length ≤ 460 := (okF_facts (List.all_eq_true.1 i1 f (List.mem_of_getElem? hf))).2.2.2.1
  simp +contextual (maxSteps := 2000000) (disch := ((try unfold LIM at *); omega)) only [↓bcase_true, ↓bcase_false, WA, simprocAttr, wrap_i64, c1, c2, c3, List.length_map]
  intro _
  refine CallThen.of 1000 (CallsV.frameL (calls20 m k f hf i1 i2) [] _ (by simp) trivial rfl) fun res h' hx => ?_
  obtain ⟨r, h1, q1, q2, q3, q4⟩ := hx
  subst q3; subst q4
  cases e : sureE m.funs f with
  | error c =>
    rw [e] at es
    simp only [funR, e] at q1
    obtain ⟨ats, n, rfl, rfl⟩ := q1
    have ps : 0 < c.1 := sureE_pos e
    simp +contextual (maxSteps := 2000000) (disch := ((try unfold LIM at *); omega)) only [↓bcase_true, ↓bcase_false, WA, simprocAttr, wrap_i64, rnRes, rnB_cat, rnB_sp, spB, ps, es, stkV]
  | ok ats =>
    rw [e] at es
    obtain ⟨al, aat⟩ := sureE_at e
    have alen : ∀ (i : Nat) (a : At), ats[i]? = some (some a) → a.stack.length ≤ 1000 := fun i a h => by have := (sureE_ok e a (List.mem_of_getElem? h)).2; omega
    simp only [funR, e] at q1
    obtain ⟨rfl, rfl⟩ := q1
    simp +contextual (maxSteps := 2000000) (disch := ((try unfold LIM at *); omega)) only [↓bcase_true, ↓bcase_false, WA, simprocAttr, wrap_i64, rnRes, rnB_cat, rnB_sp, spB, es, stkV]
    refine LoopThen.ownF 0 (ι := Nat × Nat) (fun s => s.1 ≤ ats.length ∧ s.1 ≤ s.2) (fun s => [(6, .ptr 0 0 0), (8, .sl 2 0 s.1 s.2), (9, .s (.int .i64 s.1))])
      (fun s => [spB m f (.sl 1 0 ats.length ats.length) 0, catB ats, ⟨((ats.take s.1).map stkOf).map lV, 1, s.2, true⟩]) (fun s => ats.length - s.1) 1000 1000
      ⟨(0, 0), ⟨Nat.zero_le _, Nat.le_refl _⟩, [], [1, 2, 3], ⟨by simp, rfl⟩, ⟨.inr rfl, .inl ⟨cat_nr _, rfl⟩, .inl ⟨rfl, rfl⟩, trivial⟩, by simp +contextual (maxSteps := 2000000) (disch := ((try unfold LIM at *); omega)) only [↓bcase_true, ↓bcase_false, WA, simprocAttr, wrap_i64, folds_length]⟩ ?_
    rintro ⟨i, c⟩ ⟨p1, p2⟩
    simp only at p1 p2
    by_cases c4 : (i : Int) < ats.length
    · obtain ⟨a, ha⟩ := aat i (by omega)
      have pi : (0 : Int) ≤ i := by omega
      have hi : i < ats.length := by omega
      have l2 : (List.take i ats).length = i := by simp; omega
      have gset : ∀ x : List V, ((ats.map catC).set i x)[i]? = some x := fun x => List.getElem?_set_self (by rw [List.length_map]; omega)
      simp +contextual (maxSteps := 2000000) (disch := ((try unfold LIM at *); omega)) only [↓bcase_true, ↓bcase_false, WA, simprocAttr, wrap_i64, spB, catB, c4, ha, Option.map_some, catC, cellOk_l, gset, List.set_set, pi, List.length_map, l2, cast_succ, takeTo, leafs_map iV_ok]
      intro cap hcap
      refine ⟨⟨by have := (List.all_eq_true.1 i1 f (List.mem_of_getElem? hf)); have hb := alen i a ha; omega, by have hb := alen i a ha; unfold LIM; omega⟩, fun cap' hc' _ => ⟨⟨by omega, by unfold LIM; omega⟩, fun cap2 hc2 _ => ?_⟩⟩
      refine ⟨(i + 1, cap2), ⟨⟨by simp only; omega, hc2⟩, by simp only; omega⟩, [(1, i, 1), (7, i, 0)], [0, 1, 7], ⟨by simp, rfl⟩, ?_, by simp +contextual (maxSteps := 2000000) (disch := ((try unfold LIM at *); omega)) only [↓bcase_true, ↓bcase_false, WA, simprocAttr, wrap_i64, folds_length, nm_at]⟩
      have ll : ((List.map lV (List.map stkOf (List.take i ats)))).length = i := by simp; omega
      have hset : ∀ x : List V, ((ats.map catC).set i x).set i [V.s (.bool true), .l 1 (a.stack.map iV), .l 1 (a.slots.map iV)] = ats.map catC := fun x => by
        rw [List.set_set]; exact set_same (by rw [List.getElem?_map, ha]; rfl)
      rw [folds_cons, foldC_sl (b := 1) (b1 := 4) (n1 := 1) (els1 := a.stack.map iV) rfl (gset _) rfl rfl (by rw [List.length_map]) (nrs_map iV_nr _) (by simp)]
      simp only [List.set_cons_zero, List.set_cons_succ, hset]
      rw [folds_one, foldC_sl (b := 7) (b1 := 5) (n1 := 1) (els1 := a.stack.map iV) rfl (mid_get ll) rfl rfl (by rw [List.length_map]) (nrs_map iV_nr _) (by simp)]
      refine ⟨.inr rfl, .inl ⟨cat_nr _, rfl⟩, .inl ⟨nrs_map lV_nr _, ?_⟩, trivial⟩
      show some _ = some _
      refine congrArg some (congrArg (fun e => (⟨e, 1, cap2, true⟩ : Blk)) ?_)
      rw [mid_set ll, List.take_add_one, ha]
      simp [stkOf, lV]
    · have e3 : i = ats.length := by omega
      subst e3
      simp +contextual (maxSteps := 2000000) (disch := ((try unfold LIM at *); omega)) only [↓bcase_true, ↓bcase_false, WA, simprocAttr, wrap_i64, spB, catB, c4, List.length_map]
      have t1 : ((ats.map stkOf).map lV).take ats.length = (ats.map stkOf).map lV := List.take_of_length_le (by simp)
      simp only [List.take_length, Nat.le_refl, if_true, t1, frzL, lV_frz]
end Go.Proofs.YtijefmjfdhfjmaaDoor
/- part S28 -/
set_option linter.unusedVariables false
set_option linter.unusedSimpArgs false
set_option maxRecDepth 100000
namespace Go.Proofs.YtijefmjfdhfjmaaDoor
open Go Go.W Go.RowKit
def digT (n : Nat) (acc : ByteArray) : ByteArray := if n = 0 then acc else digT (n / 10) (⟨#[UInt8.ofNat (48 + n % 10)]⟩ ++ acc)
termination_by n
decreasing_by omega
def markT (k : Int) : ByteArray := if k ≤ 0 then ⟨#[109, 48]⟩ else ⟨#[109]⟩ ++ digT k.toNat ⟨#[]⟩
theorem walk48 (k : Int) (hk : k ≤ 9223372036854775807) : PureV C 48 [.s (.int .i64 k)] (.s (.string (markT k))) := by
  refine pure_of_run Tryd.func48 rfl (by kernel_rfl) (by kernel_rfl) (by simp) (fun _ => rfl) (fun _ => rfl) 6 1000 ?_
  by_cases c : k ≤ 0
  · simp +contextual (maxSteps := 2000000) (disch := ((try unfold LIM at *); omega)) only [↓bcase_true, ↓bcase_false, WA, simprocAttr, wrap_i64, c, markT]
  simp +contextual (maxSteps := 2000000) (disch := ((try unfold LIM at *); omega)) only [↓bcase_true, ↓bcase_false, WA, simprocAttr, wrap_i64, c, markT]
  refine LoopThen.pure (ι := Nat × ByteArray) (fun p => digT p.1 p.2 = digT k.toNat ⟨#[]⟩ ∧ p.1 * 10 ^ p.2.size ≤ k.toNat ∧ p.2.size ≤ 19) (fun p => keepL [(0, .s (.int .i64 p.1)), (3, .s (.string p.2))]) (fun p => p.1) 6 [0, 3] 1000 1000
    ⟨(k.toNat, ⟨#[]⟩), ⟨rfl, by show k.toNat * 10 ^ 0 ≤ _; simp, Nat.zero_le _⟩, by have e : (k.toNat : Int) = k := Int.toNat_of_nonneg (by omega); simp +contextual (maxSteps := 2000000) (disch := ((try unfold LIM at *); omega)) only [↓bcase_true, ↓bcase_false, WA, simprocAttr, wrap_i64, e]⟩ ?_
  rintro ⟨n, acc⟩ ⟨p1, p2, p3⟩
  simp only at p1 p2 p3
  by_cases d : (0 : Int) < n
  · have hsz : acc.size < 19 := by
      have h2 : 1 * 10 ^ acc.size ≤ n * 10 ^ acc.size := Nat.mul_le_mul_right _ (by omega)
      have h3 : 10 ^ acc.size < 10 ^ 19 := by omega
      exact (Nat.pow_lt_pow_iff_right (by omega)).1 h3
    have hn : n * 1 ≤ n * 10 ^ acc.size := Nat.mul_le_mul_left _ (Nat.pos_of_ne_zero (by simp))
    have e1 : (n : Int).tmod 10 = ((n % 10 : Nat) : Int) := by rw [Int.tmod_eq_emod_of_nonneg (by omega)]; omega
    have e2 : (n : Int).tdiv 10 = ((n / 10 : Nat) : Int) := by rw [Int.tdiv_eq_ediv_of_nonneg (by omega)]; omega
    have e3 : IntKind.i64.wrap (48 + ((n % 10 : Nat) : Int)) = ((48 + n % 10 : Nat) : Int) := by rw [wrap_i64 (by omega) (by omega)]; omega
    have e4 : IntKind.u8.wrap ((48 + n % 10 : Nat) : Int) = ((48 + n % 10 : Nat) : Int) := by
      unfold IntKind.wrap
      exact Int.emod_eq_of_lt (by omega) (by simp [IntKind.bits]; omega)
    have e5 : IntKind.i64.wrap ((n / 10 : Nat) : Int) = ((n / 10 : Nat) : Int) := wrap_i64 (by omega) (by omega)
    have hz : (⟨#[UInt8.ofNat (48 + n % 10)]⟩ : ByteArray).size = 1 := rfl
    have e6 : (⟨#[UInt8.ofNat (48 + n % 10)]⟩ : ByteArray).size + acc.size ≤ LIM := by rw [hz]; unfold LIM; omega
    have e7 : (0 : Int) ≤ ((48 + n % 10 : Nat) : Int) ∧ ((48 + n % 10 : Nat) : Int) < 256 := by omega
    simp +contextual (maxSteps := 2000000) (disch := ((try unfold LIM at *); omega)) only [↓bcase_true, ↓bcase_false, WA, simprocAttr, wrap_i64, d, e1, e2, e3, e4, e5, Int.toNat_natCast, e6, e7]
    refine ⟨(n / 10, ⟨#[UInt8.ofNat (48 + n % 10)]⟩ ++ acc), ⟨⟨?_, ?_, ?_⟩, by simp only; omega⟩, rfl⟩
    · rw [← p1]; conv => rhs; rw [digT]
      rw [if_neg (by omega)]
    · rw [ByteArray.size_append, hz, Nat.pow_add]
      calc n / 10 * (10 ^ 1 * 10 ^ acc.size) = (n / 10 * 10) * 10 ^ acc.size := by rw [Nat.pow_one, Nat.mul_assoc]
        _ ≤ n * 10 ^ acc.size := Nat.mul_le_mul_right _ (by omega)
        _ ≤ k.toNat := p2
    · rw [ByteArray.size_append, hz]; omega
  · have e : n = 0 := by omega
    subst e
    have e6 : (⟨#[109]⟩ : ByteArray).size + acc.size ≤ LIM := by
      have hz : (⟨#[109]⟩ : ByteArray).size = 1 := rfl
      rw [hz]; unfold LIM; omega
    have e8 : digT k.toNat ⟨#[]⟩ = acc := by rw [← p1, digT]; rfl
    simp +contextual (maxSteps := 2000000) (disch := ((try unfold LIM at *); omega)) only [↓bcase_true, ↓bcase_false, WA, simprocAttr, wrap_i64, d, e6, e8]
def mkI (k : Int) (i : Nat) : List Int := (List.range i).map fun (j : Nat) => k + (j : Int)
theorem mkI_len (k : Int) (i : Nat) : (mkI k i).length = i := by simp [mkI]
theorem mkI_zero (k : Int) : mkI k 0 = [] := rfl
theorem mkI_succ (k : Int) (i : Nat) : mkI k (i + 1) = mkI k i ++ [k + (i : Int)] := by simp [mkI, List.range_succ]
theorem mkI_get {k : Int} {n i : Nat} (h : (i : Int) < n) : (mkI k n)[i]? = some (k + (i : Int)) := by
  have : i < n := by omega
  simp [mkI, List.getElem?_range, this]
theorem walk29 (l : List Int) (k : Int) (cap : Nat) (hl : l.length ≤ 1048576) (hc : l.length ≤ cap) (h0 : 0 ≤ k) (h1 : k ≤ 1000000000) :
    EditV C 29 [.sl 0 0 l.length cap, .s (.int .i64 k)] [⟨l.map iV, 1, cap, true⟩] (.s (.int .i64 (k + l.length))) [⟨(mkI k l.length).map iV, 1, cap, true⟩] := by
  have enr : ∀ x, (iV x).all nr = true := fun _ => rfl
  refine ⟨fun _ => rfl, by simp [nrs_map enr], ?_⟩
  refine calls_of_run Tryd.func29 rfl (by kernel_rfl) (by kernel_rfl) (by simp) 1000 ?_
  simp +contextual (maxSteps := 2000000) (disch := ((try unfold LIM at *); omega)) only [↓bcase_true, ↓bcase_false, WA, simprocAttr, wrap_i64]
  refine LoopThen.ownN 1 (ι := Nat) (fun i => i ≤ l.length) (fun i => [(0, .sl 0 0 l.length cap), (1, .s (.int .i64 (k + (i : Int)))), (5, .s (.int .i64 i))]) (fun i => [⟨(mkI k i).map iV ++ (l.drop i).map iV, 1, cap, true⟩]) (fun i => l.length - i) 1000 1000
    ⟨0, Nat.zero_le _, [0], by simp, by simp +contextual (maxSteps := 2000000) (disch := ((try unfold LIM at *); omega)) only [↓bcase_true, ↓bcase_false, WA, simprocAttr, wrap_i64, mkI_zero, nrs_map enr, true_or, List.map_nil, List.nil_append, List.drop_zero, WB8], by simp +contextual (maxSteps := 2000000) (disch := ((try unfold LIM at *); omega)) only [↓bcase_true, ↓bcase_false, WA, simprocAttr, wrap_i64, Int.mul_zero, Int.add_zero, Int.natCast_zero]⟩ ?_
  rintro i p1
  by_cases d : (i : Int) < l.length
  · obtain ⟨f, hf⟩ := get_lt d
    have pi : (0 : Int) ≤ i := by omega
    have la : ((mkI k i).map iV).length = i := by rw [List.length_map, mkI_len]
    have g1 : ∀ y (X : List (List V)), ((mkI k i).map iV ++ y :: X)[i]? = some y := fun y X => mid_get la
    have g2 : ∀ x y (X : List (List V)), ((mkI k i).map iV ++ y :: X).set i x = (mkI k i).map iV ++ x :: X := fun x y X => mid_set la
    have ez : k + (i : Int) + 1 = k + ((i + 1 : Nat) : Int) := by omega
    rw [drop_cons hf, List.map_cons]
    simp +contextual (maxSteps := 2000000) (disch := ((try unfold LIM at *); omega)) only [↓bcase_true, ↓bcase_false, WA, simprocAttr, wrap_i64, WB8, d, pi, g1, g2, iV, List.set_cons_zero, List.set_cons_succ, cast_succ, ez]
    exact ⟨i + 1, ⟨by omega, by omega⟩, [0], ⟨by simp, rfl⟩, ⟨.inl ⟨by simp only [nrs_append, nrs_map enr, Bool.and_self], by rw [mkI_succ]; simp [iV]⟩, trivial⟩, rfl, rfl, rfl⟩
  · have e : i = l.length := by omega
    subst e
    simp +contextual (maxSteps := 2000000) (disch := ((try unfold LIM at *); omega)) only [↓bcase_true, ↓bcase_false, WA, simprocAttr, wrap_i64, WB8, d]
    exact Up.keep [⟨(mkI k l.length).map iV, 1, cap, true⟩] (fun _ => rfl) rfl (by show gcL _ _ [0] _; exact ⟨.inl ⟨nrs_map enr _, by simp⟩, trivial⟩) ⟨rfl, rfl⟩
def mkC (k : Int) (i : Nat) : List Ins := (List.range i).map fun (j : Nat) => ⟨k + 2 * (j : Int), k + 2 * (j : Int) + 1⟩
theorem mkC_len (k : Int) (i : Nat) : (mkC k i).length = i := by simp [mkC]
theorem mkC_zero (k : Int) : mkC k 0 = [] := rfl
theorem mkC_succ (k : Int) (i : Nat) : mkC k (i + 1) = mkC k i ++ [⟨k + 2 * (i : Int), k + 2 * (i : Int) + 1⟩] := by simp [mkC, List.range_succ]
theorem mkC_get {k : Int} {n i : Nat} (h : (i : Int) < n) : (mkC k n)[i]? = some (⟨k + 2 * (i : Int), k + 2 * (i : Int) + 1⟩) := by
  have : i < n := by omega
  simp [mkC, List.getElem?_range, this]
theorem walk49 (l : List Ins) (k : Int) (cap : Nat) (hl : l.length ≤ 1048576) (hc : l.length ≤ cap) (h0 : 0 ≤ k) (h1 : k ≤ 1000000000) :
    EditV C 49 [.sl 0 0 l.length cap, .s (.int .i64 k)] [⟨l.map insV, 2, cap, true⟩] (.s (.int .i64 (k + 2 * l.length))) [⟨(mkC k l.length).map insV, 2, cap, true⟩] := by
  have enr : ∀ x, (insV x).all nr = true := fun _ => rfl
  refine ⟨fun _ => rfl, by simp [nrs_map enr], ?_⟩
  refine calls_of_run Tryd.func49 rfl (by kernel_rfl) (by kernel_rfl) (by simp) 1000 ?_
  simp +contextual (maxSteps := 2000000) (disch := ((try unfold LIM at *); omega)) only [↓bcase_true, ↓bcase_false, WA, simprocAttr, wrap_i64]
  refine LoopThen.ownN 1 (ι := Nat) (fun i => i ≤ l.length) (fun i => [(0, .sl 0 0 l.length cap), (1, .s (.int .i64 (k + 2 * i))), (5, .s (.int .i64 i))]) (fun i => [⟨(mkC k i).map insV ++ (l.drop i).map insV, 2, cap, true⟩]) (fun i => l.length - i) 1000 1000
    ⟨0, Nat.zero_le _, [0], by simp, by simp +contextual (maxSteps := 2000000) (disch := ((try unfold LIM at *); omega)) only [↓bcase_true, ↓bcase_false, WA, simprocAttr, wrap_i64, mkC_zero, nrs_map enr, true_or, List.map_nil, List.nil_append, List.drop_zero, WB8], by simp +contextual (maxSteps := 2000000) (disch := ((try unfold LIM at *); omega)) only [↓bcase_true, ↓bcase_false, WA, simprocAttr, wrap_i64, Int.mul_zero, Int.add_zero, Int.natCast_zero]⟩ ?_
  rintro i p1
  by_cases d : (i : Int) < l.length
  · obtain ⟨f, hf⟩ := get_lt d
    have pi : (0 : Int) ≤ i := by omega
    have la : ((mkC k i).map insV).length = i := by rw [List.length_map, mkC_len]
    have g1 : ∀ y (X : List (List V)), ((mkC k i).map insV ++ y :: X)[i]? = some y := fun y X => mid_get la
    have g2 : ∀ x y (X : List (List V)), ((mkC k i).map insV ++ y :: X).set i x = (mkC k i).map insV ++ x :: X := fun x y X => mid_set la
    have ez : k + 2 * (i : Int) + 1 + 1 = k + 2 * ((i + 1 : Nat) : Int) := by omega
    rw [drop_cons hf, List.map_cons]
    simp +contextual (maxSteps := 2000000) (disch := ((try unfold LIM at *); omega)) only [↓bcase_true, ↓bcase_false, WA, simprocAttr, wrap_i64, WB8, d, pi, g1, g2, insV, List.set_cons_zero, List.set_cons_succ, cast_succ, ez]
    exact ⟨i + 1, ⟨by omega, by omega⟩, [0], ⟨by simp, rfl⟩, ⟨.inl ⟨by simp only [nrs_append, nrs_map enr, Bool.and_self], by rw [mkC_succ]; simp [insV]⟩, trivial⟩, rfl, rfl, rfl⟩
  · have e : i = l.length := by omega
    subst e
    simp +contextual (maxSteps := 2000000) (disch := ((try unfold LIM at *); omega)) only [↓bcase_true, ↓bcase_false, WA, simprocAttr, wrap_i64, WB8, d]
    exact Up.keep [⟨(mkC k l.length).map insV, 2, cap, true⟩] (fun _ => rfl) rfl (by show gcL _ _ [0] _; exact ⟨.inl ⟨nrs_map enr _, by simp⟩, trivial⟩) ⟨rfl, rfl⟩
theorem walk30 (k : Int) (n : Nat) (hl : n ≤ 1048576) (h0 : 0 ≤ k) (h1 : k ≤ 1000000000) : PureV C 30 [.f 1 ((mkI k n).map iV), .s (.int .i64 k)] (.s (.int .i64 (k + n))) := by
  refine pure_of_run Tryd.func30 rfl (by kernel_rfl) (by kernel_rfl) (by simp) (fun _ => rfl) (fun _ => rfl) 6 1000 ?_
  simp +contextual (maxSteps := 2000000) (disch := ((try unfold LIM at *); omega)) only [↓bcase_true, ↓bcase_false, WA, simprocAttr, wrap_i64]
  refine LoopThen.pure (ι := Nat) (fun i => i ≤ n) (fun i => keepL [(0, .f 1 ((mkI k n).map iV)), (1, .s (.int .i64 (k + i))), (5, .s (.int .i64 i))]) (fun i => n - i) 6 [0, 1, 5] 1000 1000 ⟨0, Nat.zero_le _, by simp +contextual (maxSteps := 2000000) (disch := ((try unfold LIM at *); omega)) only [↓bcase_true, ↓bcase_false, WA, simprocAttr, wrap_i64, Int.add_zero, Int.natCast_zero]⟩ ?_
  rintro i p1
  by_cases d : (i : Int) < n
  · have pi : (0 : Int) ≤ i := by omega
    have hm := mkI_get (k := k) d
    have ez : k + (i : Int) + 1 = k + ((i + 1 : Nat) : Int) := by omega
    simp +contextual (maxSteps := 2000000) (disch := ((try unfold LIM at *); omega)) only [↓bcase_true, ↓bcase_false, WA, simprocAttr, wrap_i64, List.length_map, mkI_len, d, pi, hm, iV, bne_self_eq_false, cast_succ, ez]
    exact fun _ => ⟨i + 1, ⟨by omega, by omega⟩, rfl⟩
  · have e : i = n := by omega
    subst e
    simp +contextual (maxSteps := 2000000) (disch := ((try unfold LIM at *); omega)) only [↓bcase_true, ↓bcase_false, WA, simprocAttr, wrap_i64, List.length_map, mkI_len, d]
/-! ### Functions whose lists are one's own -/
def fnL (f : IFun) : List V := [.s (.string f.mod), .s (.string f.name), .l 1 (f.args.map iV), .s (.int .i64 f.typ), .s (.int .i64 f.slots), .l 2 (f.code.map insV)]
theorem fnL_nr (f : IFun) : (fnL f).all nr = true := rfl
theorem insV_nr (x : Ins) : (insV x).all nr = true := rfl
theorem fnL_pl (f : IFun) : plTs (fnL f) = true := by
  simp only [fnL, plTs, plT, Bool.and_true, Bool.true_and]
  rw [plTss_map (fun _ => rfl) f.args, plTss_map (fun _ => rfl) f.code]; rfl
def tot1 (f : IFun) : Nat := 4 + f.args.length + 2 * f.code.length
def totF : List IFun → Nat
  | [] => 0
  | f :: l => tot1 f + totF l
theorem totF_append : ∀ (a b : List IFun), totF (a ++ b) = totF a + totF b
  | [], b => by simp [totF]
  | r :: a, b => by simp only [List.cons_append, totF, totF_append a b]; omega
theorem totF_take {l : List IFun} {i : Nat} {f : IFun} (h : l[i]? = some f) : totF (l.take (i + 1)) = totF (l.take i) + tot1 f := by
  rw [List.take_add_one, h, totF_append]; simp [totF]
theorem totF_le (l : List IFun) (i : Nat) : totF (l.take i) ≤ totF l := by
  conv => rhs; rw [← List.take_append_drop i l, totF_append]
  omega
def mkF (k : Int) (f : IFun) : IFun := ⟨markT k, markT (k + 1), mkI (k + 1 + 1) f.args.length, k + 1 + 1 + f.args.length, k + 1 + 1 + f.args.length + 1, mkC (k + 1 + 1 + f.args.length + 1 + 1) f.code.length⟩
theorem walk28 (l : List IFun) (k : Int) (cap : Nat) (hl : l.length ≤ 1048576) (hf : ∀ f ∈ l, f.args.length ≤ 1048576 ∧ f.code.length ≤ 1048576) (hc : l.length ≤ cap) (h0 : 0 ≤ k) (h1 : k + totF l ≤ 900000000) :
    CallsV C 28 [.sl 0 0 l.length cap, .s (.int .i64 k)] [⟨l.map fnL, 6, cap, true⟩] fun res h' => res = .ret (.s (.int .i64 (k + totF l))) ∧ ∃ els, nrs els = true ∧ h' = [⟨els, 6, cap, true⟩] := by
  refine calls_of_run Tryd.func28 rfl (by kernel_rfl) (by kernel_rfl) (by simp) 1000 ?_
  simp +contextual (maxSteps := 2000000) (disch := ((try unfold LIM at *); omega)) only [↓bcase_true, ↓bcase_false, WA, simprocAttr, wrap_i64]
  refine LoopThen.ownF 1 (ι := Nat × List IFun) (fun p => p.1 ≤ l.length ∧ p.2.length = p.1) (fun p => [(0, .sl 0 0 l.length cap), (1, .s (.int .i64 (k + totF (l.take p.1)))), (5, .s (.int .i64 p.1))]) (fun p => [⟨p.2.map fnL ++ (l.drop p.1).map fnL, 6, cap, true⟩]) (fun p => l.length - p.1) 1000 1000
    ⟨(0, []), ⟨Nat.zero_le _, rfl⟩, [], [0], by simp, by simp +contextual (maxSteps := 2000000) (disch := ((try unfold LIM at *); omega)) only [↓bcase_true, ↓bcase_false, WA, simprocAttr, wrap_i64, folds_nil, nrs_map fnL_nr, true_or, List.map_nil, List.nil_append, List.drop_zero, WB8], by simp +contextual (maxSteps := 2000000) (disch := ((try unfold LIM at *); omega)) only [↓bcase_true, ↓bcase_false, WA, simprocAttr, wrap_i64, folds_nil, List.take_zero, totF, Int.add_zero, Int.natCast_zero]⟩ ?_
  rintro ⟨i, dn⟩ ⟨p1, p2⟩
  by_cases d : (i : Int) < l.length
  · obtain ⟨f, hf1⟩ := get_lt d
    have hff := hf f (List.mem_of_getElem? hf1)
    have pi : (0 : Int) ≤ i := by omega
    have la : (dn.map fnL).length = i := by rw [List.length_map, p2]
    have g1 : ∀ y (X : List (List V)), (dn.map fnL ++ y :: X)[i]? = some y := fun y X => mid_get la
    have g2 : ∀ x y (X : List (List V)), (dn.map fnL ++ y :: X).set i x = dn.map fnL ++ x :: X := fun x y X => mid_set la
    have ht := totF_take hf1
    have hle := totF_le l i
    have hle2 := totF_le l (i + 1)
    have ht1 : tot1 f = 4 + f.args.length + 2 * f.code.length := rfl
    rw [drop_cons hf1, List.map_cons]
    generalize ha : totF (l.take i) = a at *
    simp +contextual (maxSteps := 2000000) (disch := ((try unfold LIM at *); omega)) only [↓bcase_true, ↓bcase_false, WA, simprocAttr, wrap_i64, WB7, WB8, d, pi, g1, g2, fnL, List.set_cons_zero, List.set_cons_succ, cast_succ]
    refine CallThen.pure (walk48 _ (by omega)) 1000 ?_
    simp +contextual (maxSteps := 2000000) (disch := ((try unfold LIM at *); omega)) only [↓bcase_true, ↓bcase_false, WA, simprocAttr, wrap_i64, WB7, WB8, d, pi, g1, g2, List.set_cons_zero, List.set_cons_succ, cast_succ]
    refine CallThen.pure (walk48 _ (by omega)) 1000 ?_
    simp +contextual (maxSteps := 2000000) (disch := ((try unfold LIM at *); omega)) only [↓bcase_true, ↓bcase_false, WA, simprocAttr, wrap_i64, WB7, WB8, d, pi, g1, g2, List.set_cons_zero, List.set_cons_succ, cast_succ]
    intro c1 hc1
    simp only [List.length_map] at hc1 ⊢
    refine CallThen.edit (walk29 f.args (k + a + 1 + 1) c1 hff.1 hc1 (by omega) (by omega)) [1] (by simp) ⟨.inl ⟨nrs_map iV_nr _, rfl⟩, trivial⟩ rfl 1000 ?_
    simp +contextual (maxSteps := 2000000) (disch := ((try unfold LIM at *); omega)) only [↓bcase_true, ↓bcase_false, WA, simprocAttr, wrap_i64, WB7, WB8, d, pi, g1, g2, List.set_cons_zero, List.set_cons_succ, cast_succ]
    intro c2 hc2
    simp only [List.length_map] at hc2 ⊢
    refine CallThen.edit (walk49 f.code _ c2 hff.2 hc2 (by omega) (by omega)) [2] (by simp) ⟨.inl ⟨nrs_map insV_nr _, rfl⟩, trivial⟩ rfl 1000 ?_
    simp +contextual (maxSteps := 2000000) (disch := ((try unfold LIM at *); omega)) only [↓bcase_true, ↓bcase_false, WA, simprocAttr, wrap_i64, WB7, WB8, d, pi, g1, g2, List.set_cons_zero, List.set_cons_succ, cast_succ]
    refine ⟨(i + 1, dn ++ [mkF (k + a) f]), ⟨⟨by simp only; omega, by simp only [List.length_append, List.length_cons, List.length_nil]; simp only at p2; omega⟩, by simp only; omega⟩, [(0, i, 2), (0, i, 5)], [0], ⟨by simp, rfl⟩, ?_, rfl, ?_, rfl, trivial⟩
    · rw [folds_cons, foldC_sl (b1 := 1) rfl (mid_get la) rfl rfl (by rw [List.length_map, mkI_len]) (nrs_map iV_nr _) (by simp)]
      simp only [List.set_cons_zero, List.set_cons_succ, mid_set la]
      rw [folds_one, foldC_sl (b1 := 2) rfl (mid_get la) rfl rfl (by rw [List.length_map, mkC_len]) (nrs_map insV_nr _) (by simp)]
      refine ⟨.inl ⟨by simp only [nrs_append, nrs_map fnL_nr, Bool.and_self], ?_⟩, trivial⟩
      show some _ = some _
      refine congrArg some (congrArg (fun e => (⟨e, 6, cap, true⟩ : Blk)) ?_)
      rw [mid_set la]
      simp [fnL, mkF]
    · show V.s _ = V.s _
      simp only [ht]
      congr 2
      omega
  · have e : i = l.length := by omega
    subst e
    simp +contextual (maxSteps := 2000000) (disch := ((try unfold LIM at *); omega)) only [↓bcase_true, ↓bcase_false, WA, simprocAttr, wrap_i64, WB7, WB8, d]
    rw [List.take_length]
    exact Up.keep [⟨dn.map fnL ++ (l.drop l.length).map fnL, 6, cap, true⟩] (fun _ => rfl) rfl (by show gcL _ _ [0] _; exact ⟨.inl ⟨by simp only [nrs_append, nrs_map fnL_nr, Bool.and_self], by simp⟩, trivial⟩) ⟨rfl, _, by simp only [nrs_append, nrs_map fnL_nr, Bool.and_self], rfl⟩
end Go.Proofs.YtijefmjfdhfjmaaDoor
/- part S29 -/
set_option linter.unusedVariables false
set_option linter.unusedSimpArgs false
set_option maxRecDepth 100000
namespace Go.Proofs.YtijefmjfdhfjmaaDoor
open Go Go.W Go.RowKit
theorem new22 (l : List Int) (hl : l.length ≤ 1048576) : NewV C 22 [.f 1 (l.map iV)] 1 (l.map iV) := by
  refine calls_of_run Tryd.func22 rfl (by kernel_rfl) (by kernel_rfl) (by simp) 1000 ?_
  have enr : ∀ x, (iV x).all nr = true := fun _ => rfl
  have z1 := fun n => nrs_replicate (el := [V.s (.int .i64 0)]) rfl n
  have b0 : (0 : Int) ≤ l.length := by omega
  have b1 : (8 : Int) * l.length ≤ 140737488355328 := by omega
  have b2 : (l.length : Int) ≤ 4611686018427387904 := by omega
  simp +contextual (maxSteps := 2000000) (disch := ((try unfold LIM at *); omega)) only [↓bcase_true, ↓bcase_false, WA, simprocAttr, wrap_i64, List.length_map, b0, b1, b2, Int.le_refl]
  intro hl'
  refine LoopThen.own (ι := Nat) (fun i => i ≤ l.length) (fun i => [(0, .f 1 (l.map iV)), (3, .sl 0 0 l.length l.length), (4, .s (.int .i64 i))]) (fun i => [⟨(l.take i).map iV ++ List.replicate (l.length - i) [V.s (.int .i64 0)], 1, l.length, true⟩]) (fun i => l.length - i)
    1000 1000 ⟨0, Nat.zero_le _, [0], by simp, by simp +contextual (maxSteps := 2000000) (disch := ((try unfold LIM at *); omega)) only [↓bcase_true, ↓bcase_false, WA, simprocAttr, wrap_i64, z1, Nat.sub_zero, true_or], by simp +contextual (maxSteps := 2000000) (disch := ((try unfold LIM at *); omega)) only [↓bcase_true, ↓bcase_false, WA, simprocAttr, wrap_i64]⟩ ?_
  intro i p1
  by_cases c2 : (i : Int) < l.length
  · obtain ⟨f, hf⟩ := get_lt c2
    have pi : (0 : Int) ≤ i := by omega
    obtain ⟨k, hk⟩ : ∃ k, l.length - i = k + 1 := ⟨l.length - i - 1, by omega⟩
    have hl1 : ((l.take i).map iV).length = i := by simp; omega
    have g1 : ((l.take i).map iV ++ List.replicate (l.length - i) [V.s (.int .i64 0)])[i]? = some [V.s (.int .i64 0)] := by rw [fill_get _ _ hl1, hk]; rfl
    have g2 : ((l.take i).map iV ++ List.replicate (l.length - i) [V.s (.int .i64 0)]).set i (iV f) = (l.take (i + 1)).map iV ++ List.replicate (l.length - (i + 1)) [V.s (.int .i64 0)] := by
      rw [hk, fill_set _ _ _ _ _ hl1, List.take_add_one, hf, show l.length - (i + 1) = k by omega]; simp
    have g3 : nrs ((l.take (i + 1)).map iV ++ List.replicate (l.length - (i + 1)) [V.s (.int .i64 0)]) = true := by rw [nrs_append, nrs_map enr, z1]; rfl
    simp +contextual (maxSteps := 2000000) (disch := ((try unfold LIM at *); omega)) only [↓bcase_true, ↓bcase_false, WA, simprocAttr, wrap_i64, List.length_map, hl', c2, hf, pi, iV, g1]
    simp only [iV] at g2 g3
    simp +contextual (maxSteps := 2000000) (disch := ((try unfold LIM at *); omega)) only [↓bcase_true, ↓bcase_false, WA, simprocAttr, wrap_i64, iV, g1, g2, List.length_map, pi, c2, cast_succ]
    exact ⟨i + 1, ⟨by omega, by omega⟩, [0], by simp, ⟨.inl ⟨g3, rfl⟩, trivial⟩, by simp +contextual (maxSteps := 2000000) (disch := ((try unfold LIM at *); omega)) only [↓bcase_true, ↓bcase_false, WA, simprocAttr, wrap_i64, nm_at]⟩
  · have e : i = l.length := by omega
    subst e
    have g4 : (l.take l.length).map iV ++ List.replicate (l.length - l.length) [V.s (.int .i64 0)] = l.map iV := by simp
    simp +contextual (maxSteps := 2000000) (disch := ((try unfold LIM at *); omega)) only [↓bcase_true, ↓bcase_false, WA, simprocAttr, wrap_i64, List.length_map, hl', c2, g4]
    exact Up.fresh (b := 0) rfl (nrs_map enr _) ⟨l.length, Nat.le_refl _, rfl, rfl⟩
theorem new63 (l : List Ins) (hl : l.length ≤ 1048576) : NewV C 63 [.f 2 (l.map insV)] 2 (l.map insV) := by
  refine calls_of_run Tryd.func63 rfl (by kernel_rfl) (by kernel_rfl) (by simp) 1000 ?_
  have enr : ∀ x, (insV x).all nr = true := fun _ => rfl
  have z1 := fun n => nrs_replicate (el := [V.s (.int .i64 0), .s (.int .i64 0)]) rfl n
  have b0 : (0 : Int) ≤ l.length := by omega
  have b1 : (16 : Int) * l.length ≤ 140737488355328 := by omega
  have b2 : (l.length : Int) ≤ 4611686018427387904 := by omega
  simp +contextual (maxSteps := 2000000) (disch := ((try unfold LIM at *); omega)) only [↓bcase_true, ↓bcase_false, WA, simprocAttr, wrap_i64, List.length_map, b0, b1, b2, Int.le_refl]
  intro hl'
  refine LoopThen.own (ι := Nat) (fun i => i ≤ l.length) (fun i => [(0, .f 2 (l.map insV)), (3, .sl 0 0 l.length l.length), (4, .s (.int .i64 i))]) (fun i => [⟨(l.take i).map insV ++ List.replicate (l.length - i) [V.s (.int .i64 0), .s (.int .i64 0)], 2, l.length, true⟩]) (fun i => l.length - i)
    1000 1000 ⟨0, Nat.zero_le _, [0], by simp, by simp +contextual (maxSteps := 2000000) (disch := ((try unfold LIM at *); omega)) only [↓bcase_true, ↓bcase_false, WA, simprocAttr, wrap_i64, z1, Nat.sub_zero, true_or], by simp +contextual (maxSteps := 2000000) (disch := ((try unfold LIM at *); omega)) only [↓bcase_true, ↓bcase_false, WA, simprocAttr, wrap_i64]⟩ ?_
  intro i p1
  by_cases c2 : (i : Int) < l.length
  · obtain ⟨f, hf⟩ := get_lt c2
    have pi : (0 : Int) ≤ i := by omega
    obtain ⟨k, hk⟩ : ∃ k, l.length - i = k + 1 := ⟨l.length - i - 1, by omega⟩
    have hl1 : ((l.take i).map insV).length = i := by simp; omega
    have g1 : ((l.take i).map insV ++ List.replicate (l.length - i) [V.s (.int .i64 0), .s (.int .i64 0)])[i]? = some [V.s (.int .i64 0), .s (.int .i64 0)] := by rw [fill_get _ _ hl1, hk]; rfl
    have g2 : ((l.take i).map insV ++ List.replicate (l.length - i) [V.s (.int .i64 0), .s (.int .i64 0)]).set i (insV f) = (l.take (i + 1)).map insV ++ List.replicate (l.length - (i + 1)) [V.s (.int .i64 0), .s (.int .i64 0)] := by
      rw [hk, fill_set _ _ _ _ _ hl1, List.take_add_one, hf, show l.length - (i + 1) = k by omega]; simp
    have g3 : nrs ((l.take (i + 1)).map insV ++ List.replicate (l.length - (i + 1)) [V.s (.int .i64 0), .s (.int .i64 0)]) = true := by rw [nrs_append, nrs_map enr, z1]; rfl
    simp +contextual (maxSteps := 2000000) (disch := ((try unfold LIM at *); omega)) only [↓bcase_true, ↓bcase_false, WA, simprocAttr, wrap_i64, List.length_map, hl', c2, hf, pi, insV, g1]
    refine CallThen.pure (walk80 f) 1000 ?_
    simp only [insV] at g2 g3
    simp +contextual (maxSteps := 2000000) (disch := ((try unfold LIM at *); omega)) only [↓bcase_true, ↓bcase_false, WA, simprocAttr, wrap_i64, insV, g1, g2, List.length_map, pi, c2, cast_succ]
    exact ⟨i + 1, ⟨by omega, by omega⟩, [0], by simp, ⟨.inl ⟨g3, rfl⟩, trivial⟩, by simp +contextual (maxSteps := 2000000) (disch := ((try unfold LIM at *); omega)) only [↓bcase_true, ↓bcase_false, WA, simprocAttr, wrap_i64, nm_at]⟩
  · have e : i = l.length := by omega
    subst e
    have g4 : (l.take l.length).map insV ++ List.replicate (l.length - l.length) [V.s (.int .i64 0), .s (.int .i64 0)] = l.map insV := by simp
    simp +contextual (maxSteps := 2000000) (disch := ((try unfold LIM at *); omega)) only [↓bcase_true, ↓bcase_false, WA, simprocAttr, wrap_i64, List.length_map, hl', c2, g4]
    exact Up.fresh (b := 0) rfl (nrs_map enr _) ⟨l.length, Nat.le_refl _, rfl, rfl⟩
def fnO (f : IFun) (b1 c1 b2 c2 : Nat) : List V := [.s (.string f.mod), .s (.string f.name), .sl b1 0 f.args.length c1, .s (.int .i64 f.typ), .s (.int .i64 f.slots), .sl b2 0 f.code.length c2]
theorem new36 (f : IFun) (h1 : f.args.length ≤ 1048576) (h2 : f.code.length ≤ 1048576) : CallsV C 36 [.agg (fnV f)] [] fun res h' => ∃ c1 c2, f.args.length ≤ c1 ∧ f.code.length ≤ c2 ∧ res = .ret (.agg (fnO f 0 c1 1 c2)) ∧ h' = [⟨f.args.map iV, 1, c1, true⟩, ⟨f.code.map insV, 2, c2, true⟩] := by
  refine calls_of_run Tryd.func36 rfl (by kernel_rfl) (by kernel_rfl) (by simp) 1000 ?_
  simp +contextual (maxSteps := 2000000) (disch := ((try unfold LIM at *); omega)) only [↓bcase_true, ↓bcase_false, WA, simprocAttr, wrap_i64, fnV]
  refine CallThen.new (new22 f.args h1) (nrs_map iV_nr _) (fun _ => rfl) 1000 fun c1 hc1 => ?_
  rw [List.length_map] at hc1
  simp +contextual (maxSteps := 2000000) (disch := ((try unfold LIM at *); omega)) only [↓bcase_true, ↓bcase_false, WA, simprocAttr, wrap_i64, fnV, List.length_map]
  refine CallThen.new (new63 f.code h2) (nrs_map insV_nr _) (fun _ => rfl) 1000 fun c2 hc2 => ?_
  rw [List.length_map] at hc2
  simp +contextual (maxSteps := 2000000) (disch := ((try unfold LIM at *); omega)) only [↓bcase_true, ↓bcase_false, WA, simprocAttr, wrap_i64, fnV, List.length_map]
  refine Up.gc (.agg (fnO f 0 c1 1 c2)) [3, 4] [⟨f.args.map iV, 1, c1, true⟩, ⟨f.code.map insV, 2, c2, true⟩] (by simp) ⟨.inl ⟨nrs_map iV_nr _, rfl⟩, .inl ⟨nrs_map insV_nr _, rfl⟩, trivial⟩ rfl ⟨c1, c2, hc1, hc2, rfl, rfl⟩
theorem new21 (l : List IFun) (hl : l.length ≤ 1048576) (hf2 : ∀ f ∈ l, f.args.length ≤ 1048576 ∧ f.code.length ≤ 1048576) : NewV C 21 [.f 6 (l.map fnV)] 6 (l.map fnL) := by
  refine calls_of_run Tryd.func21 rfl (by kernel_rfl) (by kernel_rfl) (by simp) 1000 ?_
  have z1 := fun n => nrs_replicate (el := [V.s (.string ⟨#[]⟩), .s (.string ⟨#[]⟩), .z, .s (.int .i64 0), .s (.int .i64 0), .z]) rfl n
  have b0 : (0 : Int) ≤ l.length := by omega
  have b1 : (96 : Int) * l.length ≤ 140737488355328 := by omega
  have b2 : (l.length : Int) ≤ 4611686018427387904 := by omega
  simp +contextual (maxSteps := 2000000) (disch := ((try unfold LIM at *); omega)) only [↓bcase_true, ↓bcase_false, WA, simprocAttr, wrap_i64, List.length_map, b0, b1, b2, Int.le_refl]
  intro hl'
  refine LoopThen.ownF 0 (ι := Nat) (fun i => i ≤ l.length) (fun i => [(0, .f 6 (l.map fnV)), (3, .sl 0 0 l.length l.length), (4, .s (.int .i64 i))]) (fun i => [⟨(l.take i).map fnL ++ List.replicate (l.length - i) [V.s (.string ⟨#[]⟩), .s (.string ⟨#[]⟩), .z, .s (.int .i64 0), .s (.int .i64 0), .z], 6, l.length, true⟩]) (fun i => l.length - i)
    1000 1000 ⟨0, Nat.zero_le _, [], [0], by simp, by simp +contextual (maxSteps := 2000000) (disch := ((try unfold LIM at *); omega)) only [↓bcase_true, ↓bcase_false, WA, simprocAttr, wrap_i64, folds_nil, z1, Nat.sub_zero, true_or], by simp +contextual (maxSteps := 2000000) (disch := ((try unfold LIM at *); omega)) only [↓bcase_true, ↓bcase_false, WA, simprocAttr, wrap_i64, folds_nil]⟩ ?_
  intro i p1
  by_cases c2 : (i : Int) < l.length
  · obtain ⟨f, hf1⟩ := get_lt c2
    have hff := hf2 f (List.mem_of_getElem? hf1)
    have pi : (0 : Int) ≤ i := by omega
    obtain ⟨k, hk⟩ : ∃ k, l.length - i = k + 1 := ⟨l.length - i - 1, by omega⟩
    have hl1 : ((l.take i).map fnL).length = i := by simp; omega
    have g1 : ((l.take i).map fnL ++ List.replicate (l.length - i) [V.s (.string ⟨#[]⟩), .s (.string ⟨#[]⟩), .z, .s (.int .i64 0), .s (.int .i64 0), .z])[i]? = some [V.s (.string ⟨#[]⟩), .s (.string ⟨#[]⟩), .z, .s (.int .i64 0), .s (.int .i64 0), .z] := by rw [fill_get _ _ hl1, hk]; rfl
    have g2 : ∀ x, ((l.take i).map fnL ++ List.replicate (l.length - i) [V.s (.string ⟨#[]⟩), .s (.string ⟨#[]⟩), .z, .s (.int .i64 0), .s (.int .i64 0), .z]).set i x = (l.take i).map fnL ++ x :: List.replicate k [V.s (.string ⟨#[]⟩), .s (.string ⟨#[]⟩), .z, .s (.int .i64 0), .s (.int .i64 0), .z] := by
      intro x; rw [hk, fill_set _ _ _ _ _ hl1]; simp
    simp +contextual (maxSteps := 2000000) (disch := ((try unfold LIM at *); omega)) only [↓bcase_true, ↓bcase_false, WA, simprocAttr, wrap_i64, List.length_map, hl', c2, hf1, pi, fnV]
    refine CallThen.of 1000 (CallsV.frameL (new36 f hff.1 hff.2) [] _ (by simp) trivial rfl) fun res h' hx => ?_
    obtain ⟨r, h1, ⟨c1, d1, k1, k2, k3, k4⟩, k5, k6, k7⟩ := hx
    subst k3; subst k4; subst k6; subst k7
    have rn2 : ∀ ρ, rnB ρ ⟨f.code.map insV, 2, d1, true⟩ = ⟨f.code.map insV, 2, d1, true⟩ := fun ρ => nrs_rn _ (nrs_map insV_nr _)
    have rn3 : ∀ ρ, ((f.code.map insV).map fun el => el.map (rnC ρ)) = f.code.map insV := fun ρ => congrArg Blk.els (rn2 ρ)
    simp +contextual (maxSteps := 2000000) (disch := ((try unfold LIM at *); omega)) only [↓bcase_true, ↓bcase_false, WA, simprocAttr, wrap_i64, List.length_map, c2, pi, fnO, rnRes, iV_rn, rn3, g1, g2, cast_succ, WB7, WB8]
    refine ⟨i + 1, ⟨by omega, by omega⟩, [(0, i, 2), (0, i, 5)], [0], by simp, ?_, by simp +contextual (maxSteps := 2000000) (disch := ((try unfold LIM at *); omega)) only [↓bcase_true, ↓bcase_false, WA, simprocAttr, wrap_i64, folds_length]⟩
    rw [folds_cons, foldC_sl (b1 := 1) rfl (mid_get hl1) rfl rfl (by rw [List.length_map]) (nrs_map iV_nr _) (by simp)]
    simp only [List.set_cons_zero, List.set_cons_succ, mid_set hl1]
    rw [folds_one, foldC_sl (b1 := 2) rfl (mid_get hl1) rfl rfl (by rw [List.length_map]) (nrs_map insV_nr _) (by simp)]
    have g3 : (l.take (i + 1)).map fnL = (l.take i).map fnL ++ [fnL f] := by rw [List.take_add_one, hf1]; simp
    have g5 : ∀ x y, ((l.take i).map fnL ++ x :: List.replicate k y).set i (fnL f) = (l.take (i + 1)).map fnL ++ List.replicate (l.length - (i + 1)) y := by
      intro x y; rw [mid_set hl1, g3, show l.length - (i + 1) = k by omega]; simp
    refine ⟨.inl ⟨?_, ?_⟩, trivial⟩
    · simp only [nrs_append, nrs_map fnL_nr, z1, Bool.and_self]
    · show some _ = some _
      exact congrArg some (congrArg (fun e => (⟨e, 6, l.length, true⟩ : Blk)) (g5 _ _))
  · have e : i = l.length := by omega
    subst e
    have g4 : (l.take l.length).map fnL ++ List.replicate (l.length - l.length) [V.s (.string ⟨#[]⟩), .s (.string ⟨#[]⟩), .z, .s (.int .i64 0), .s (.int .i64 0), .z] = l.map fnL := by simp
    simp +contextual (maxSteps := 2000000) (disch := ((try unfold LIM at *); omega)) only [↓bcase_true, ↓bcase_false, WA, simprocAttr, wrap_i64, List.length_map, hl', c2, g4, WB7, WB8]
    exact Up.fresh (b := 0) rfl (nrs_map fnL_nr _) ⟨l.length, Nat.le_refl _, rfl, rfl⟩
theorem new7 (m : Img) (h1 : m.funs.length ≤ 1048576) (h2 : m.mains.length ≤ 1048576) (h3 : ∀ f ∈ m.funs, f.args.length ≤ 1048576 ∧ f.code.length ≤ 1048576) : CallsV C 7 [.agg (imgV m)] [] fun res h' => ∃ c1 c2, m.funs.length ≤ c1 ∧ m.mains.length ≤ c2 ∧ res = .ret (.agg [.sl 0 0 m.funs.length c1, .sl 1 0 m.mains.length c2]) ∧ h' = [⟨m.funs.map fnL, 6, c1, true⟩, ⟨m.mains.map iV, 1, c2, true⟩] := by
  refine calls_of_run Tryd.func7 rfl (by kernel_rfl) (by kernel_rfl) (by simp) 1000 ?_
  simp +contextual (maxSteps := 2000000) (disch := ((try unfold LIM at *); omega)) only [↓bcase_true, ↓bcase_false, WA, simprocAttr, wrap_i64, imgV]
  refine CallThen.new (new21 m.funs h1 h3) (nrs_map fnL_nr _) (fun _ => rfl) 1000 fun c1 hc1 => ?_
  rw [List.length_map] at hc1
  simp +contextual (maxSteps := 2000000) (disch := ((try unfold LIM at *); omega)) only [↓bcase_true, ↓bcase_false, WA, simprocAttr, wrap_i64, List.length_map]
  refine CallThen.new (new22 m.mains h2) (nrs_map iV_nr _) (fun _ => rfl) 1000 fun c2 hc2 => ?_
  rw [List.length_map] at hc2
  simp +contextual (maxSteps := 2000000) (disch := ((try unfold LIM at *); omega)) only [↓bcase_true, ↓bcase_false, WA, simprocAttr, wrap_i64, List.length_map]
  refine Up.gc (.agg [.sl 0 0 m.funs.length c1, .sl 1 0 m.mains.length c2]) [3, 4] [⟨m.funs.map fnL, 6, c1, true⟩, ⟨m.mains.map iV, 1, c2, true⟩] (by simp) ⟨.inl ⟨nrs_map fnL_nr _, rfl⟩, .inl ⟨nrs_map iV_nr _, rfl⟩, trivial⟩ rfl ⟨c1, c2, hc1, hc2, rfl, rfl⟩
/-- The image is marked: what it then holds is not told. -/
theorem calls14 (m : Img) (c1 c2 : Nat) (h1 : m.funs.length ≤ 1048576) (h2 : m.mains.length ≤ 1048576) (h3 : ∀ f ∈ m.funs, f.args.length ≤ 1048576 ∧ f.code.length ≤ 1048576) (h4 : totF m.funs ≤ 800000000) (hc1 : m.funs.length ≤ c1) (hc2 : m.mains.length ≤ c2) :
    CallsV C 14 [.agg [.sl 0 0 m.funs.length c1, .sl 1 0 m.mains.length c2], .s (.int .i64 1)] [⟨m.funs.map fnL, 6, c1, true⟩, ⟨m.mains.map iV, 1, c2, true⟩] fun res h' => ∃ n : Nat, res = .ret (.s (.int .i64 n)) ∧ h' = [Blk.dead, Blk.dead] := by
  refine calls_of_run Tryd.func14 rfl (by kernel_rfl) (by kernel_rfl) (by simp) 1000 ?_
  simp +contextual (maxSteps := 2000000) (disch := ((try unfold LIM at *); omega)) only [↓bcase_true, ↓bcase_false, WA, simprocAttr, wrap_i64]
  refine CallThen.of 1000 (CallsV.frameL (walk28 m.funs 1 c1 h1 h3 hc1 (by decide) (by omega)) [0] _ (by simp) ⟨.inl ⟨nrs_map fnL_nr _, rfl⟩, trivial⟩ rfl) fun res h' hx => ?_
  obtain ⟨r, hh, ⟨k1, els, k2, k3⟩, k5, k6, k7⟩ := hx
  subst k1; subst k3; subst k6; subst k7
  simp +contextual (maxSteps := 2000000) (disch := ((try unfold LIM at *); omega)) only [↓bcase_true, ↓bcase_false, WA, simprocAttr, wrap_i64, rnRes]
  refine CallThen.edit (walk29 m.mains _ c2 h2 hc2 (by omega) (by omega)) [1] (by simp) ⟨.inl ⟨nrs_map iV_nr _, rfl⟩, trivial⟩ rfl 1000 ?_
  simp +contextual (maxSteps := 2000000) (disch := ((try unfold LIM at *); omega)) only [↓bcase_true, ↓bcase_false, WA, simprocAttr, wrap_i64, WB8]
  refine Up.gcM (.s (.int .i64 ((1 + totF m.funs + m.mains.length : Nat) : Int))) [] [] [0, 1] [Blk.dead, Blk.dead] (show List.Nodup [] from List.nodup_nil) rfl ⟨.inl rfl, .inl rfl, trivial⟩ ?_ ⟨_, rfl, rfl⟩
  show V.s _ = V.s _
  congr 2
end Go.Proofs.YtijefmjfdhfjmaaDoor
/- part S30 -/
set_option linter.unusedVariables false
set_option linter.unusedSimpArgs false
set_option maxRecDepth 100000
namespace Go.Proofs.YtijefmjfdhfjmaaDoor
open Go Go.W Go.RowKit
/-! ### Lists of lists -/
theorem walk13 (l : List (List Int)) : PureV C 13 [.f 1 (l.map fV), .f 1 (l.map fV)] (.s (.bool true)) := by
  refine pure_of_run Tryd.func13 rfl (by kernel_rfl) (by kernel_rfl) (by simp) (fun _ => rfl) (fun _ => rfl) 6 1000 ?_
  simp +contextual (maxSteps := 2000000) (disch := ((try unfold LIM at *); omega)) only [↓bcase_true, ↓bcase_false, WA, simprocAttr, wrap_i64, List.length_map]
  intro _
  refine LoopThen.pure (ι := Nat) (fun i => i ≤ l.length) (fun i => keepL [(0, .f 1 (l.map fV)), (1, .f 1 (l.map fV)), (5, .s (.int .i64 i))]) (fun i => l.length - i)
    6 [0, 1, 5] 1000 1000 ⟨0, by omega, by simp +contextual (maxSteps := 2000000) (disch := ((try unfold LIM at *); omega)) only [↓bcase_true, ↓bcase_false, WA, simprocAttr, wrap_i64]⟩ ?_
  intro i p1
  by_cases c2 : (i : Int) < l.length
  · obtain ⟨f, hf⟩ := get_lt c2
    have pi : (0 : Int) ≤ i := by omega
    have hfv : (l.map fV)[i]? = some (fV f) := by rw [List.getElem?_map, hf]; rfl
    simp +contextual (maxSteps := 2000000) (disch := ((try unfold LIM at *); omega)) only [↓bcase_true, ↓bcase_false, WA, simprocAttr, wrap_i64, List.length_map, c2]
    intro _
    refine DrawThen.of 1000 [] (.old 0 (.old 1 (.old 2 (.old 3 (.old 4 (.old 5 (.old 6 (.old 7 (.go 8 (.new 9 .done)))))))))) (panFree_loopP (panFree_pure _ _ _)) (by kernel_rfl) (by kernel_rfl) (by kernel_rfl) ?_
    simp +contextual (maxSteps := 2000000) (disch := ((try unfold LIM at *); omega)) only [↓bcase_true, ↓bcase_false, WA, simprocAttr, wrap_i64, List.length_map, c2, hfv, pi, fV, cast_succ]
    refine DCall.pure (walk26 f) 1000 (.new 9 .done) (by kernel_rfl) ?_
    simp +contextual (maxSteps := 2000000) (disch := ((try unfold LIM at *); omega)) only [↓bcase_true, ↓bcase_false, WA, simprocAttr, wrap_i64, cast_succ]
    try simp +contextual (maxSteps := 2000000) (disch := ((try unfold LIM at *); omega)) only [↓bcase_true, ↓bcase_false, WA, simprocAttr, wrap_i64, List.length_map, c2, hfv, pi, fV, cast_succ]
    skip
    exact ⟨i + 1, ⟨by omega, by omega⟩, rfl⟩
  · have e : i = l.length := by omega
    subst e
    simp +contextual (maxSteps := 2000000) (disch := ((try unfold LIM at *); omega)) only [↓bcase_true, ↓bcase_false, WA, simprocAttr, wrap_i64, List.length_map, c2]
theorem walk13z : PureV C 13 [.z, .z] (.s (.bool true)) := by
  refine pure_of_run Tryd.func13 rfl (by kernel_rfl) (by kernel_rfl) (by simp) (fun _ => rfl) (fun _ => rfl) 6 1000 ?_
  simp +contextual (maxSteps := 2000000) (disch := ((try unfold LIM at *); omega)) only [↓bcase_true, ↓bcase_false, WA, simprocAttr, wrap_i64]
  refine LoopThen.zero 1000 1000 ?_
  simp +contextual (maxSteps := 2000000) (disch := ((try unfold LIM at *); omega)) only [↓bcase_true, ↓bcase_false, WA, simprocAttr, wrap_i64, WB6]
def totS : List (List Int) → Nat
  | [] => 0
  | s :: l => s.length + totS l
theorem totS_append : ∀ (a b : List (List Int)), totS (a ++ b) = totS a + totS b
  | [], b => by simp [totS]
  | r :: a, b => by simp only [List.cons_append, totS, totS_append a b]; omega
theorem totS_take {l : List (List Int)} {i : Nat} {f : List Int} (h : l[i]? = some f) : totS (l.take (i + 1)) = totS (l.take i) + f.length := by
  rw [List.take_add_one, h, totS_append]; simp [totS]
theorem totS_le (l : List (List Int)) (i : Nat) : totS (l.take i) ≤ totS l := by
  conv => rhs; rw [← List.take_append_drop i l, totS_append]
  omega
/-- The marks of a list of lists. -/
def mkL : Int → List (List Int) → List (List Int)
  | _, [] => []
  | k, s :: l => mkI k s.length :: mkL (k + s.length) l
theorem mkL_snoc : ∀ (k : Int) (a : List (List Int)) (s : List Int), mkL k (a ++ [s]) = mkL k a ++ [mkI (k + totS a) s.length]
  | k, [], s => by simp [mkL, totS]
  | k, r :: a, s => by
    simp only [List.cons_append, mkL, mkL_snoc (k + r.length) a s, totS]
    rw [show k + (r.length : Int) + (totS a : Int) = k + ((r.length + totS a : Nat) : Int) by omega]
theorem mkL_len : ∀ (k : Int) (a : List (List Int)), (mkL k a).length = a.length
  | _, [] => rfl
  | k, r :: a => by simp [mkL, mkL_len]
theorem mkL_get : ∀ {k : Int} {l : List (List Int)} {i : Nat} {s : List Int}, l[i]? = some s → (mkL k l)[i]? = some (mkI (k + totS (l.take i)) s.length)
  | k, r :: l, 0, s, h => by simp at h; subst h; simp [mkL, totS]
  | k, r :: l, i + 1, s, h => by
    simp at h
    simp only [mkL, List.getElem?_cons_succ, List.take_succ_cons, totS]
    rw [mkL_get h, show k + (r.length : Int) + (totS (l.take i) : Int) = k + ((r.length + totS (l.take i) : Nat) : Int) by omega]
theorem walk15 (l : List (List Int)) (cap : Nat) (hl : l.length ≤ 1048576) (hf : ∀ s ∈ l, s.length ≤ 1048576) (hc : l.length ≤ cap) (h1 : totS l ≤ 900000000) :
    EditV C 15 [.sl 0 0 l.length cap, .s (.int .i64 1)] [⟨l.map lV, 1, cap, true⟩] (.s (.int .i64 (1 + totS l))) [⟨(mkL 1 l).map lV, 1, cap, true⟩] := by
  refine ⟨fun _ => rfl, by simp [nrs_map lV_nr], ?_⟩
  refine calls_of_run Tryd.func15 rfl (by kernel_rfl) (by kernel_rfl) (by simp) 1000 ?_
  simp +contextual (maxSteps := 2000000) (disch := ((try unfold LIM at *); omega)) only [↓bcase_true, ↓bcase_false, WA, simprocAttr, wrap_i64]
  refine LoopThen.ownF 1 (ι := Nat) (fun i => i ≤ l.length) (fun i => [(0, .sl 0 0 l.length cap), (1, .s (.int .i64 (1 + totS (l.take i)))), (5, .s (.int .i64 i))]) (fun i => [⟨(mkL 1 (l.take i)).map lV ++ (l.drop i).map lV, 1, cap, true⟩]) (fun i => l.length - i) 1000 1000
    ⟨0, Nat.zero_le _, [], [0], by simp, by simp +contextual (maxSteps := 2000000) (disch := ((try unfold LIM at *); omega)) only [↓bcase_true, ↓bcase_false, WA, simprocAttr, wrap_i64, folds_nil, mkL, nrs_map lV_nr, true_or, List.take_zero, List.map_nil, List.nil_append, List.drop_zero, WB8], by simp +contextual (maxSteps := 2000000) (disch := ((try unfold LIM at *); omega)) only [↓bcase_true, ↓bcase_false, WA, simprocAttr, wrap_i64, folds_nil, List.take_zero, totS, Int.add_zero, Int.natCast_zero]⟩ ?_
  intro i p1
  by_cases d : (i : Int) < l.length
  · obtain ⟨f, hf1⟩ := get_lt d
    have hff := hf f (List.mem_of_getElem? hf1)
    have pi : (0 : Int) ≤ i := by omega
    have la : ((mkL 1 (l.take i)).map lV).length = i := by rw [List.length_map, mkL_len]; simp; omega
    have g1 : ∀ y (X : List (List V)), ((mkL 1 (l.take i)).map lV ++ y :: X)[i]? = some y := fun y X => mid_get la
    have g2 : ∀ x y (X : List (List V)), ((mkL 1 (l.take i)).map lV ++ y :: X).set i x = (mkL 1 (l.take i)).map lV ++ x :: X := fun x y X => mid_set la
    have ht := totS_take hf1
    have hle := totS_le l i
    have hle2 := totS_le l (i + 1)
    have hm := mkL_snoc 1 (l.take i) f
    have htk : l.take i ++ [f] = l.take (i + 1) := by rw [List.take_add_one, hf1]; rfl
    rw [htk] at hm
    rw [drop_cons hf1, List.map_cons]
    generalize ha : totS (l.take i) = a at *
    simp +contextual (maxSteps := 2000000) (disch := ((try unfold LIM at *); omega)) only [↓bcase_true, ↓bcase_false, WA, simprocAttr, wrap_i64, WB7, WB8, d, pi, g1, g2, lV, List.set_cons_zero, List.set_cons_succ, cast_succ]
    intro c1 hc1
    simp only [List.length_map] at hc1 ⊢
    refine CallThen.edit (walk29 f (1 + a) c1 hff hc1 (by omega) (by omega)) [1] (by simp) ⟨.inl ⟨nrs_map iV_nr _, rfl⟩, trivial⟩ rfl 1000 ?_
    simp +contextual (maxSteps := 2000000) (disch := ((try unfold LIM at *); omega)) only [↓bcase_true, ↓bcase_false, WA, simprocAttr, wrap_i64, WB7, WB8, d, pi, g1, g2, List.set_cons_zero, List.set_cons_succ, cast_succ]
    refine ⟨i + 1, ⟨by omega, by omega⟩, [(0, i, 0)], [0], ⟨by simp, rfl⟩, ?_, rfl, ?_, rfl, trivial⟩
    · rw [folds_one, foldC_sl (b1 := 1) rfl (mid_get la) rfl rfl (by rw [List.length_map, mkI_len]) (nrs_map iV_nr _) (by simp)]
      refine ⟨.inl ⟨by simp only [nrs_append, nrs_map lV_nr, Bool.and_self], ?_⟩, trivial⟩
      show some _ = some _
      refine congrArg some (congrArg (fun e => (⟨e, 1, cap, true⟩ : Blk)) ?_)
      rw [mid_set la, hm]
      simp [lV]
    · show V.s _ = V.s _
      simp only [ht]
      congr 2
      omega
  · have e : i = l.length := by omega
    subst e
    simp +contextual (maxSteps := 2000000) (disch := ((try unfold LIM at *); omega)) only [↓bcase_true, ↓bcase_false, WA, simprocAttr, wrap_i64, WB7, WB8, d]
    rw [List.take_length]
    exact Up.keep [⟨(mkL 1 l).map lV, 1, cap, true⟩] (fun _ => rfl) rfl (by show gcL _ _ [0] _; exact ⟨.inl ⟨nrs_map lV_nr _, by simp⟩, trivial⟩) ⟨rfl, rfl⟩
theorem walk16 (l : List (List Int)) (hl : l.length ≤ 1048576) (hf : ∀ s ∈ l, s.length ≤ 1048576) (h1 : totS l ≤ 900000000) : PureV C 16 [.f 1 ((mkL 1 l).map fV), .s (.int .i64 1)] (.s (.int .i64 (1 + totS l))) := by
  refine pure_of_run Tryd.func16 rfl (by kernel_rfl) (by kernel_rfl) (by simp) (fun _ => rfl) (fun _ => rfl) 6 1000 ?_
  simp +contextual (maxSteps := 2000000) (disch := ((try unfold LIM at *); omega)) only [↓bcase_true, ↓bcase_false, WA, simprocAttr, wrap_i64]
  refine LoopThen.pure (ι := Nat) (fun i => i ≤ l.length) (fun i => keepL [(0, .f 1 ((mkL 1 l).map fV)), (1, .s (.int .i64 (1 + totS (l.take i)))), (5, .s (.int .i64 i))]) (fun i => l.length - i) 6 [0, 1, 5] 1000 1000 ⟨0, Nat.zero_le _, by simp +contextual (maxSteps := 2000000) (disch := ((try unfold LIM at *); omega)) only [↓bcase_true, ↓bcase_false, WA, simprocAttr, wrap_i64, List.take_zero, totS, Int.add_zero, Int.natCast_zero]⟩ ?_
  intro i p1
  by_cases d : (i : Int) < l.length
  · obtain ⟨f, hf1⟩ := get_lt d
    have hff := hf f (List.mem_of_getElem? hf1)
    have pi : (0 : Int) ≤ i := by omega
    have hm := mkL_get (k := 1) hf1
    have hmv : ((mkL 1 l).map fV)[i]? = some (fV (mkI (1 + totS (l.take i)) f.length)) := by rw [List.getElem?_map, hm]; rfl
    have ht := totS_take hf1
    have hle := totS_le l i
    have hle2 := totS_le l (i + 1)
    generalize ha : totS (l.take i) = a at *
    simp +contextual (maxSteps := 2000000) (disch := ((try unfold LIM at *); omega)) only [↓bcase_true, ↓bcase_false, WA, simprocAttr, wrap_i64, List.length_map, mkL_len, d, pi, hmv, fV]
    intro _
    refine CallThen.pure (walk30 (1 + a) f.length hff (by omega) (by omega)) 1000 ?_
    have ez : (1 : Int) + a + f.length = 1 + (totS (l.take (i + 1)) : Int) := by omega
    have p0 : ¬ (1 : Int) + (totS (l.take (i + 1)) : Int) < 0 := by omega
    simp +contextual (maxSteps := 2000000) (disch := ((try unfold LIM at *); omega)) only [↓bcase_true, ↓bcase_false, WA, simprocAttr, wrap_i64, ez, p0, cast_succ]
    exact ⟨i + 1, ⟨by omega, by omega⟩, rfl⟩
  · have e : i = l.length := by omega
    subst e
    simp +contextual (maxSteps := 2000000) (disch := ((try unfold LIM at *); omega)) only [↓bcase_true, ↓bcase_false, WA, simprocAttr, wrap_i64, List.length_map, mkL_len, d, List.take_length]
end Go.Proofs.YtijefmjfdhfjmaaDoor
/- part S31 -/
set_option linter.unusedVariables false
set_option linter.unusedSimpArgs false
set_option maxRecDepth 100000
namespace Go.Proofs.YtijefmjfdhfjmaaDoor
open Go Go.W Go.RowKit
theorem stackE_len {m : Img} {fn : Int} {l : List (List Int)} (h : stackE m fn = some l) : l.length ≤ 460 ∧ ∀ s ∈ l, s.length ≤ 100 := by
  unfold stackE at h
  split at h
  · rename_i h0
    obtain ⟨i1, i2, i3, i4⟩ := imgB_all h0.1
    split at h
    · rename_i f hf
      split at h
      · rename_i ats he
        cases h
        obtain ⟨al, aat⟩ := sureE_at he
        have hfc : f.code.length ≤ 460 := (okF_facts (List.all_eq_true.1 i1 f (List.mem_of_getElem? hf))).2.2.2.1
        refine ⟨by simp; omega, fun s hs => ?_⟩
        obtain ⟨o, ho, rfl⟩ := List.mem_map.1 hs
        cases o with
        | none => simp [stkOf]
        | some a => exact (sureE_ok he a ho).2
      · cases h
    · cases h
  · cases h
theorem totS_bound : ∀ {l : List (List Int)}, (∀ s ∈ l, s.length ≤ 100) → totS l ≤ 100 * l.length
  | [], _ => Nat.le_refl _
  | s :: l, h => by
    have h1 := h s (by simp)
    have h2 := totS_bound (l := l) fun x hx => h x (by simp [hx])
    simp only [totS, List.length_cons]; omega
theorem stkR_z {m : Img} {fn : Int} (r : Res) (h' : H) (h : stkR m fn r h') : zfR r = true ∧ h'.all (fun B => plTss B.els) = true := by
  unfold stkR at h
  split at h
  · obtain ⟨cap, _, rfl, rfl⟩ := h
    exact ⟨rfl, by simp [plTss_map lV_pl]⟩
  · obtain ⟨rfl, rfl⟩ := h
    exact ⟨rfl, rfl⟩
theorem walk15z : PureV C 15 [.z, .s (.int .i64 1)] (.s (.int .i64 1)) := by
  refine pure_of_run Tryd.func15 rfl (by kernel_rfl) (by kernel_rfl) (by simp) (fun _ => rfl) (fun _ => rfl) 6 1000 ?_
  simp +contextual (maxSteps := 2000000) (disch := ((try unfold LIM at *); omega)) only [↓bcase_true, ↓bcase_false, WA, simprocAttr, wrap_i64]
  refine LoopThen.zero 1000 1000 ?_
  simp +contextual (maxSteps := 2000000) (disch := ((try unfold LIM at *); omega)) only [↓bcase_true, ↓bcase_false, WA, simprocAttr, wrap_i64, WB6]
theorem walk16z : PureV C 16 [.z, .s (.int .i64 1)] (.s (.int .i64 1)) := by
  refine pure_of_run Tryd.func16 rfl (by kernel_rfl) (by kernel_rfl) (by simp) (fun _ => rfl) (fun _ => rfl) 6 1000 ?_
  simp +contextual (maxSteps := 2000000) (disch := ((try unfold LIM at *); omega)) only [↓bcase_true, ↓bcase_false, WA, simprocAttr, wrap_i64]
  refine LoopThen.zero 1000 1000 ?_
  simp +contextual (maxSteps := 2000000) (disch := ((try unfold LIM at *); omega)) only [↓bcase_true, ↓bcase_false, WA, simprocAttr, wrap_i64, WB6]
theorem szFn_fit (f : IFun) (left : Int) (h : 0 ≤ szFn f left) : (f.args.length : Int) + f.code.length + szFn f left ≤ left := by
  unfold szFn at h ⊢
  split
  · rename_i h1; rw [if_pos h1] at h; omega
  rename_i h1
  rw [if_neg h1] at h
  split
  · rename_i h2; rw [if_pos h2] at h; omega
  rename_i h2
  rw [if_neg h2] at h
  split
  · rename_i h3; rw [if_pos h3] at h; omega
  rename_i h3
  rw [if_neg h3] at h
  unfold lenL at h h3 ⊢
  split at h3
  · omega
  rename_i h4
  rw [if_neg h4] at h ⊢
  split at h
  · omega
  rename_i h5
  rw [if_neg h5]
  omega
theorem kbud_tot : ∀ {l : List IFun} {left : Int}, 0 ≤ kbud szFn l left → 0 ≤ left → left ≤ 1048576 → (totF l : Int) ≤ 4 * l.length + 2 * left
  | [], left, h, h0, h1 => by simp [totF]; omega
  | f :: r, left, h, h0, h1 => by
    rw [kbud] at h
    split at h
    · omega
    rename_i hs
    have hr := szFn_range f left h0 h1
    have i1 := kbud_tot h (by omega) (by omega)
    have key := szFn_fit f left (by omega)
    simp only [totF, tot1, List.length_cons]
    omega
theorem szImg_tot {m : Img} (h : ¬ szImg m 1048576 < 0) : totF m.funs ≤ 800000000 := by
  obtain ⟨h1, _, _, _⟩ := szImg_len h
  unfold szImg at h
  split at h
  · omega
  rename_i h2
  unfold kszS at h2
  split at h2
  · omega
  have := kbud_tot (l := m.funs) (left := 1048576 - m.funs.length) (by omega) (by omega) (by omega)
  omega
theorem fnL_frz (n0 d : Nat) (h : H) (l : List IFun) : ((l.map fnL).map fun el => el.map (frz n0 d h)) = l.map fnV := by
  have fc : ∀ l : List Ins, fzss (l.map insV) = l.map insV := fun l => by rw [fzss_map, List.map_map]; exact List.map_congr_left fun b _ => rfl
  rw [List.map_map]
  refine List.map_congr_left fun f _ => ?_
  show (fnL f).map (frz n0 d h) = fnV f
  unfold fnL fnV
  simp only [List.map_cons, List.map_nil]
  cases d <;> simp only [frz, fzss_iV, fc]
theorem own_fn {l : List IFun} {cap : Nat} : elsOf 0 l.length (some ⟨l.map fnL, 6, cap, true⟩) = some (l.map fnL) := by simp [elsOf, List.take_of_length_le]
theorem own_iv {l : List Int} {cap : Nat} : elsOf 0 l.length (some ⟨l.map iV, 1, cap, true⟩) = some (l.map iV) := by simp [elsOf, List.take_of_length_le]
theorem own_lv {l : List (List Int)} {cap : Nat} : elsOf 0 l.length (some ⟨l.map lV, 1, cap, true⟩) = some (l.map lV) := by simp [elsOf, List.take_of_length_le]
theorem walk4 (m : Img) (fn : Int) : PureV C 4 [.agg (imgV m), .s (.int .i64 fn)] (.s (.bool true)) := by
  refine pure_of_run Tryd.func4 rfl (by kernel_rfl) (by kernel_rfl) (by simp) (fun _ => rfl) (fun _ => rfl) 6 1000 ?_
  simp +contextual (maxSteps := 2000000) (disch := ((try unfold LIM at *); omega)) only [↓bcase_true, ↓bcase_false, WA, simprocAttr, wrap_i64, imgV]
  refine CallThen.pure (walk5 m 1048576 (by decide) (by decide)) 1000 ?_
  by_cases c : szImg m 1048576 < 0
  · simp +contextual (maxSteps := 2000000) (disch := ((try unfold LIM at *); omega)) only [↓bcase_true, ↓bcase_false, WA, simprocAttr, wrap_i64, c]
  obtain ⟨h1, h2, h3, h4⟩ := szImg_len c
  have h5 := szImg_tot c
  simp +contextual (maxSteps := 2000000) (disch := ((try unfold LIM at *); omega)) only [↓bcase_true, ↓bcase_false, WA, simprocAttr, wrap_i64, c]
  refine CallThen.pure (walk7 m h1 h2 h4) 1000 ?_
  simp +contextual (maxSteps := 2000000) (disch := ((try unfold LIM at *); omega)) only [↓bcase_true, ↓bcase_false, WA, simprocAttr, wrap_i64, imgV]
  refine CallThen.pure (walk11 m fn h1 h2 h3) 1000 ?_
  cases hs : stackE m fn with
  | none =>
    simp +contextual (maxSteps := 2000000) (disch := ((try unfold LIM at *); omega)) only [↓bcase_true, ↓bcase_false, WA, simprocAttr, wrap_i64, stkV]
    refine CallThen.of 1000 (CallsV.frameL (new7 m h1 h2 h4) [] _ (by simp) trivial rfl) fun res h' hx => ?_
    obtain ⟨r, hh, ⟨c1, c2, k1, k2, k3, k4⟩, k5, k6, k7⟩ := hx
    subst k3; subst k4; subst k6; subst k7
    have fnL_rn : ∀ ρ, ((m.funs.map fnL).map fun el => el.map (rnC ρ)) = m.funs.map fnL := fun ρ => congrArg Blk.els (nrs_rn (B := ⟨m.funs.map fnL, 6, c1, true⟩) ρ (nrs_map fnL_nr _))
    simp +contextual (maxSteps := 2000000) (disch := ((try unfold LIM at *); omega)) only [↓bcase_true, ↓bcase_false, WA, simprocAttr, wrap_i64, rnRes, iV_rn, fnL_rn]
    refine CallThen.of 1000 (CallsV.lendT (calls12 m fn h1 h2 h3) stkR_z 6 _ ?_) fun res h' hx => ?_
    · simp +contextual (maxSteps := 2000000) (disch := ((try unfold LIM at *); omega)) only [↓bcase_true, ↓bcase_false, WA, simprocAttr, wrap_i64, List.length_map, own_fn, own_iv, fnL_frz, iV_frz, Nat.not_lt_zero, imgV]
    obtain ⟨r, hh, k1, k2, k3⟩ := hx
    simp only [stkR, hs] at k1
    obtain ⟨rfl, rfl⟩ := k1
    subst k2; subst k3
    simp +contextual (maxSteps := 2000000) (disch := ((try unfold LIM at *); omega)) only [↓bcase_true, ↓bcase_false, WA, simprocAttr, wrap_i64, rnRes]
    refine CallThen.pure walk13z 1000 ?_
    simp +contextual (maxSteps := 2000000) (disch := ((try unfold LIM at *); omega)) only [↓bcase_true, ↓bcase_false, WA, simprocAttr, wrap_i64, bne_self_eq_false]
    refine DrawThen.of 1000 [1, 2] (.old 0 (.old 1 (.go 2 (.go 3 (.new 4 .done))))) (panFree_pure _ _ _) (by kernel_rfl) (by kernel_rfl) (by kernel_rfl) ?_
    simp +contextual (maxSteps := 2000000) (disch := ((try unfold LIM at *); omega)) only [↓bcase_true, ↓bcase_false, WA, simprocAttr, wrap_i64, imgV]
    refine DCall.pure (walk7 m h1 h2 h4) 1000 (.go 3 (.new 4 .done)) (by kernel_rfl) ?_
    simp +contextual (maxSteps := 2000000) (disch := ((try unfold LIM at *); omega)) only [↓bcase_true, ↓bcase_false, WA, simprocAttr, wrap_i64, imgV]
    try simp +contextual (maxSteps := 2000000) (disch := ((try unfold LIM at *); omega)) only [↓bcase_true, ↓bcase_false, WA, simprocAttr, wrap_i64, imgV]
    refine DCall.borrow (walk10 m) (flat_s _) 6 ?_ 1000 (.new 4 .done) (by kernel_rfl) ?_
    · simp +contextual (maxSteps := 2000000) (disch := ((try unfold LIM at *); omega)) only [↓bcase_true, ↓bcase_false, WA, simprocAttr, wrap_i64, List.length_map, own_fn, own_iv, fnL_frz, iV_frz, Nat.not_lt_zero, imgV]
    simp +contextual (maxSteps := 2000000) (disch := ((try unfold LIM at *); omega)) only [↓bcase_true, ↓bcase_false, WA, simprocAttr, wrap_i64]
    try simp +contextual (maxSteps := 2000000) (disch := ((try unfold LIM at *); omega)) only [↓bcase_true, ↓bcase_false, WA, simprocAttr, wrap_i64, imgV]
    skip
    refine CallThen.of 1000 (CallsV.frameL (calls14 m c1 c2 h1 h2 h4 h5 k1 k2) [1, 2] _ (by simp) ⟨.inl ⟨nrs_map fnL_nr _, rfl⟩, .inl ⟨nrs_map iV_nr _, rfl⟩, trivial⟩ rfl) fun res h' hx => ?_
    obtain ⟨r, hh, ⟨n, q1, q2⟩, k5, k6, k7⟩ := hx
    subst q1; subst q2; subst k6; subst k7
    have pn : ¬ (n : Int) < 0 := by omega
    simp +contextual (maxSteps := 2000000) (disch := ((try unfold LIM at *); omega)) only [↓bcase_true, ↓bcase_false, WA, simprocAttr, wrap_i64, rnRes, rnB_dead, pn]
    refine CallThen.pure walk13z 1000 ?_
    simp +contextual (maxSteps := 2000000) (disch := ((try unfold LIM at *); omega)) only [↓bcase_true, ↓bcase_false, WA, simprocAttr, wrap_i64, bne_self_eq_false]
    refine CallThen.pure walk15z 1000 ?_
    simp +contextual (maxSteps := 2000000) (disch := ((try unfold LIM at *); omega)) only [↓bcase_true, ↓bcase_false, WA, simprocAttr, wrap_i64]
    refine CallThen.pure walk16z 1000 ?_
    simp +contextual (maxSteps := 2000000) (disch := ((try unfold LIM at *); omega)) only [↓bcase_true, ↓bcase_false, WA, simprocAttr, wrap_i64, bne_self_eq_false]
    refine CallThen.pure (walk7 m h1 h2 h4) 1000 ?_
    simp +contextual (maxSteps := 2000000) (disch := ((try unfold LIM at *); omega)) only [↓bcase_true, ↓bcase_false, WA, simprocAttr, wrap_i64]
    refine CallThen.of 1000 (CallsV.lendT (calls12 m fn h1 h2 h3) stkR_z 6 _ ?_) fun res h' hx => ?_
    · simp +contextual (maxSteps := 2000000) (disch := ((try unfold LIM at *); omega)) only [↓bcase_true, ↓bcase_false, WA, simprocAttr, wrap_i64, imgV]
    obtain ⟨r, hh, k1, k2, k3⟩ := hx
    simp only [stkR, hs] at k1
    obtain ⟨rfl, rfl⟩ := k1
    subst k2; subst k3
    simp +contextual (maxSteps := 2000000) (disch := ((try unfold LIM at *); omega)) only [↓bcase_true, ↓bcase_false, WA, simprocAttr, wrap_i64, rnRes]
    refine CallThen.pure walk13z 1000 ?_
    simp +contextual (maxSteps := 2000000) (disch := ((try unfold LIM at *); omega)) only [↓bcase_true, ↓bcase_false, WA, simprocAttr, wrap_i64, bne_self_eq_false]
    refine CallThen.pure walk16z 1000 ?_
    simp +contextual (maxSteps := 2000000) (disch := ((try unfold LIM at *); omega)) only [↓bcase_true, ↓bcase_false, WA, simprocAttr, wrap_i64, bne_self_eq_false]
  | some l =>
    obtain ⟨ll1, ll2⟩ := stackE_len hs
    have lt := totS_bound ll2
    simp +contextual (maxSteps := 2000000) (disch := ((try unfold LIM at *); omega)) only [↓bcase_true, ↓bcase_false, WA, simprocAttr, wrap_i64, stkV]
    refine CallThen.of 1000 (CallsV.frameL (new7 m h1 h2 h4) [] _ (by simp) trivial rfl) fun res h' hx => ?_
    obtain ⟨r, hh, ⟨c1, c2, k1, k2, k3, k4⟩, k5, k6, k7⟩ := hx
    subst k3; subst k4; subst k6; subst k7
    have fnL_rn : ∀ ρ, ((m.funs.map fnL).map fun el => el.map (rnC ρ)) = m.funs.map fnL := fun ρ => congrArg Blk.els (nrs_rn (B := ⟨m.funs.map fnL, 6, c1, true⟩) ρ (nrs_map fnL_nr _))
    simp +contextual (maxSteps := 2000000) (disch := ((try unfold LIM at *); omega)) only [↓bcase_true, ↓bcase_false, WA, simprocAttr, wrap_i64, rnRes, iV_rn, fnL_rn]
    refine CallThen.of 1000 (CallsV.lendT (calls12 m fn h1 h2 h3) stkR_z 6 _ ?_) fun res h' hx => ?_
    · simp +contextual (maxSteps := 2000000) (disch := ((try unfold LIM at *); omega)) only [↓bcase_true, ↓bcase_false, WA, simprocAttr, wrap_i64, List.length_map, own_fn, own_iv, fnL_frz, iV_frz, Nat.not_lt_zero, imgV]
    obtain ⟨r, hh, k3, k4, k5⟩ := hx
    simp only [stkR, hs] at k3
    obtain ⟨cg, hcg, rfl, rfl⟩ := k3
    subst k4; subst k5
    simp +contextual (maxSteps := 2000000) (disch := ((try unfold LIM at *); omega)) only [↓bcase_true, ↓bcase_false, WA, simprocAttr, wrap_i64, rnRes]
    refine CallThen.borrow (walk13 l) (flat_s _) 6 ?_ 1000 ?_
    · simp +contextual (maxSteps := 2000000) (disch := ((try unfold LIM at *); omega)) only [↓bcase_true, ↓bcase_false, WA, simprocAttr, wrap_i64, List.length_map, own_lv, lV_frz, Nat.not_lt_zero]
    simp +contextual (maxSteps := 2000000) (disch := ((try unfold LIM at *); omega)) only [↓bcase_true, ↓bcase_false, WA, simprocAttr, wrap_i64, bne_self_eq_false]
    refine DrawThen.of 1000 [1, 2] (.old 0 (.old 1 (.go 2 (.go 3 (.new 4 .done))))) (panFree_pure _ _ _) (by kernel_rfl) (by kernel_rfl) (by kernel_rfl) ?_
    simp +contextual (maxSteps := 2000000) (disch := ((try unfold LIM at *); omega)) only [↓bcase_true, ↓bcase_false, WA, simprocAttr, wrap_i64, imgV]
    refine DCall.pure (walk7 m h1 h2 h4) 1000 (.go 3 (.new 4 .done)) (by kernel_rfl) ?_
    simp +contextual (maxSteps := 2000000) (disch := ((try unfold LIM at *); omega)) only [↓bcase_true, ↓bcase_false, WA, simprocAttr, wrap_i64, imgV]
    try simp +contextual (maxSteps := 2000000) (disch := ((try unfold LIM at *); omega)) only [↓bcase_true, ↓bcase_false, WA, simprocAttr, wrap_i64, imgV]
    refine DCall.borrow (walk10 m) (flat_s _) 6 ?_ 1000 (.new 4 .done) (by kernel_rfl) ?_
    · simp +contextual (maxSteps := 2000000) (disch := ((try unfold LIM at *); omega)) only [↓bcase_true, ↓bcase_false, WA, simprocAttr, wrap_i64, List.length_map, own_fn, own_iv, fnL_frz, iV_frz, Nat.not_lt_zero, imgV]
    simp +contextual (maxSteps := 2000000) (disch := ((try unfold LIM at *); omega)) only [↓bcase_true, ↓bcase_false, WA, simprocAttr, wrap_i64]
    try simp +contextual (maxSteps := 2000000) (disch := ((try unfold LIM at *); omega)) only [↓bcase_true, ↓bcase_false, WA, simprocAttr, wrap_i64, imgV]
    skip
    refine CallThen.of 1000 (CallsV.frameL (calls14 m c1 c2 h1 h2 h4 h5 k1 k2) [1, 2] _ (by simp) ⟨.inl ⟨nrs_map fnL_nr _, rfl⟩, .inl ⟨nrs_map iV_nr _, rfl⟩, trivial⟩ rfl) fun res h' hx => ?_
    obtain ⟨r, hh, ⟨n, q1, q2⟩, k5, k6, k7⟩ := hx
    subst q1; subst q2; subst k6; subst k7
    have pn : ¬ (n : Int) < 0 := by omega
    simp +contextual (maxSteps := 2000000) (disch := ((try unfold LIM at *); omega)) only [↓bcase_true, ↓bcase_false, WA, simprocAttr, wrap_i64, rnRes, rnB_dead, pn]
    refine CallThen.borrow (walk13 l) (flat_s _) 6 ?_ 1000 ?_
    · simp +contextual (maxSteps := 2000000) (disch := ((try unfold LIM at *); omega)) only [↓bcase_true, ↓bcase_false, WA, simprocAttr, wrap_i64, List.length_map, own_lv, lV_frz, Nat.not_lt_zero]
    simp +contextual (maxSteps := 2000000) (disch := ((try unfold LIM at *); omega)) only [↓bcase_true, ↓bcase_false, WA, simprocAttr, wrap_i64, bne_self_eq_false]
    have hl2 : ∀ s ∈ l, s.length ≤ 1048576 := fun s h => by have := ll2 s h; omega
    refine CallThen.edit (walk15 l cg (by omega) hl2 hcg (by omega)) [4] (by simp) ⟨.inl ⟨nrs_map lV_nr _, rfl⟩, trivial⟩ rfl 1000 ?_
    simp +contextual (maxSteps := 2000000) (disch := ((try unfold LIM at *); omega)) only [↓bcase_true, ↓bcase_false, WA, simprocAttr, wrap_i64, WB8]
    have hm : ∀ cap, elsOf 0 l.length (some ⟨(mkL 1 l).map lV, 1, cap, true⟩) = some ((mkL 1 l).map lV) := fun cap => by simp [elsOf, List.take_of_length_le, mkL_len]
    refine CallThen.borrow (walk16 l (by omega) hl2 (by omega)) (flat_s _) 6 ?_ 1000 ?_
    · simp +contextual (maxSteps := 2000000) (disch := ((try unfold LIM at *); omega)) only [↓bcase_true, ↓bcase_false, WA, simprocAttr, wrap_i64, List.length_map, hm, lV_frz, Nat.not_lt_zero]
    have pt : ¬ (1 : Int) + (totS l : Int) < 0 := by omega
    simp +contextual (maxSteps := 2000000) (disch := ((try unfold LIM at *); omega)) only [↓bcase_true, ↓bcase_false, WA, simprocAttr, wrap_i64, pt, bne_self_eq_false]
    refine CallThen.pure (walk7 m h1 h2 h4) 1000 ?_
    simp +contextual (maxSteps := 2000000) (disch := ((try unfold LIM at *); omega)) only [↓bcase_true, ↓bcase_false, WA, simprocAttr, wrap_i64]
    refine CallThen.of 1000 (CallsV.lendT (calls12 m fn h1 h2 h3) stkR_z 6 _ ?_) fun res h' hx => ?_
    · simp +contextual (maxSteps := 2000000) (disch := ((try unfold LIM at *); omega)) only [↓bcase_true, ↓bcase_false, WA, simprocAttr, wrap_i64, imgV]
    obtain ⟨r, hh, k3, k4, k5⟩ := hx
    simp only [stkR, hs] at k3
    obtain ⟨ch, hch, rfl, rfl⟩ := k3
    subst k4; subst k5
    simp +contextual (maxSteps := 2000000) (disch := ((try unfold LIM at *); omega)) only [↓bcase_true, ↓bcase_false, WA, simprocAttr, wrap_i64, rnRes]
    refine CallThen.borrow (walk13 l) (flat_s _) 6 ?_ 1000 ?_
    · simp +contextual (maxSteps := 2000000) (disch := ((try unfold LIM at *); omega)) only [↓bcase_true, ↓bcase_false, WA, simprocAttr, wrap_i64, List.length_map, own_lv, lV_frz, Nat.not_lt_zero]
    simp +contextual (maxSteps := 2000000) (disch := ((try unfold LIM at *); omega)) only [↓bcase_true, ↓bcase_false, WA, simprocAttr, wrap_i64, bne_self_eq_false]
    refine CallThen.borrow (walk16 l (by omega) hl2 (by omega)) (flat_s _) 6 ?_ 1000 ?_
    · simp +contextual (maxSteps := 2000000) (disch := ((try unfold LIM at *); omega)) only [↓bcase_true, ↓bcase_false, WA, simprocAttr, wrap_i64, List.length_map, hm, lV_frz, Nat.not_lt_zero]
    simp +contextual (maxSteps := 2000000) (disch := ((try unfold LIM at *); omega)) only [↓bcase_true, ↓bcase_false, WA, simprocAttr, wrap_i64, pt, bne_self_eq_false]
end Go.Proofs.YtijefmjfdhfjmaaDoor
/- part BS2 -/
set_option maxRecDepth 100000
namespace Go.Proofs.YtijefmjfdhfjmaaDoor
open Go Go.W Go.RowKit Go.ChangeShapes Go.WideShapes
theorem own0 : ownKnob Tryd.prog.godebug = none := by kernel_rfl
theorem laidOut0 : laidOutB Tryd.prog = true := by kernel_rfl
theorem gWords : Tryd.prog.globalNamed "loop.example/smithy/impl.primWords" = some 0 := by kernel_rfl
theorem tWords : (Tryd.prog.globals[0]?).map (·.type) = some 123 := by kernel_rfl
theorem uWords : Tryd.prog.underlying 123 = some (.array 14 9) := by kernel_rfl
def laidL : List (String × DataW Unit) := [("loop.example/smithy/impl.primWords", Rows.laid_loop_example_smithy_impl_primWords)]
theorem door_met (os : Os) (args : Array Value) : laidMetH Tryd.prog laidL ((World.doorLaid Tryd.prog 400 os).forCall (fun _ _ => 0) ⟨#[], args, []⟩).memory :=
  laidMetH_of_parts3 (fuel := 8) (laidMet_of_run' 8 (by kernel_rfl) (by kernel_rfl)) (by kernel_rfl) (by kernel_rfl)
theorem strs_of {H : Type} {enc : TypeId × Value → H} {W : World} {sp : Nat → Bool} {held : Bool} {m : Nat} {bs : List (List UInt8)} {cs : List Value} {xs : List (DataW H × List MemPlace)} (hx : xs.map (·.1) = bs.map fun b => .lit (.string b)) (hc : cs.length = bs.length)
    (h : ∀ i, i < bs.length → DataW.trod enc Tryd.prog W 0 sp held m 9 ((cs.drop (i * 1)).take 1) = xs[i]?) : cs = bs.map fun b => .string ⟨b.toArray⟩ := by
  refine List.ext_getElem (by simpa using hc) fun i h1 h2 => ?_
  have hi : i < bs.length := by omega
  have h3 := h i hi
  have hd : (cs.drop (i * 1)).take 1 = [cs[i]] := by rw [Nat.mul_one, List.drop_eq_getElem_cons h1]; rfl
  have hl : xs.length = bs.length := by simpa using congrArg List.length hx
  have hxi : xs[i]? = some (xs[i]'(by omega)) := List.getElem?_eq_getElem (by omega)
  rw [hd, hxi] at h3
  obtain ⟨s, e1, e2, _⟩ := DataW.trod_string Tryd.underlying9 h3
  have e3 := congrArg (fun l : List (DataW H) => l[i]?) hx
  simp only [List.getElem?_map, hxi, List.getElem?_eq_getElem hi, Option.map_some, Option.some.injEq] at e3
  rw [e2] at e3
  simp only [DataW.lit.injEq, Lit.string.injEq] at e3
  simp only [List.cons.injEq, and_true] at e1
  rw [List.getElem_map, e1, ← e3]
theorem relG_of {W : World} (h : laidMetH Tryd.prog laidL W) : RelG C (phi0 W).z := by
  rw [MakeChecks.laidMetH_plain _ _ _ (by kernel_rfl)] at h
  obtain ⟨ps, ⟨g0, t0, cs0, f0, p0, q0, hg0, ht0, hv0, hd0, _, _⟩, _, _⟩ := h
  obtain rfl := Option.some.inj (gWords.symm.trans hg0)
  obtain rfl := Option.some.inj (tWords.symm.trans ht0)
  obtain ⟨xs, m1, rfl, hx1, hlen, hn3, hel⟩ := DataW.trod_array uWords hd0
  have c9 : Tryd.prog.cellsOf 9 = 1 := by kernel_rfl
  have c123 : Tryd.prog.cellsOf 123 = 14 := by kernel_rfl
  rw [c9] at hel
  rw [c123] at hlen
  simp only [Prod.mk.injEq, Rows.laid_loop_example_smithy_impl_primWords, DataW.agg.injEq] at hx1
  have key := strs_of (bs := [[43], [45], [42], [47], [37], [60], [60, 61], [61], [110, 111, 116], [97, 116], [108, 101, 110], [112, 117, 116], [106, 111, 105, 110], [112, 114, 105, 110, 116]]) hx1.1.symm hlen hel
  intro g
  match g with
  | 0 =>
    rw [cg0]
    refine ⟨0, 0, rfl, rzs_of (cs := cs0.toList) ?_ fun i v e => ?_⟩
    · rw [key]
      repeat' apply And.intro
      all_goals first | trivial | (simp only [RZ, one]; exact ⟨rfl, rfl⟩)
    · have := World.var?_cell hg0 hv0 i
      show W.cell? ⟨0, 0 + i, none⟩ = some v
      rw [Nat.zero_add, this]; simpa using e
  | g + 1 =>
    have : C.g (g + 1) = .any := by simp [C]
    rw [this]; simp [RZ]
/-- What a law's own walk is for the statement, where package variables are told. -/
theorem pure_trueG {f : Nat} {args : List V} {W : World} {vs : Array Value} (hn : enters C.P f = true) (G : RelG C (phi0 W).z) (c : PureV C f args (.s (.bool true))) (ha : All2 (RelV (phi0 W)) args vs.toList) :
    Calls C.P f vs W fun e W' => e = .returned (.bool true) ∧ Below W.heap.size W W' := by
  rcases c.calls (fun _ => False) W (phi0 W) vs W G (rel0 W) ha with ⟨_, h⟩ | ⟨v, w', hv, _⟩
  · refine h.mono fun e W' ⟨r, φ', h', p1, p2, p3, p4, p5, p6⟩ => ?_
    subst p5
    obtain ⟨v, rfl, q⟩ := p1
    obtain ⟨rfl, -⟩ := s_rel q
    obtain ⟨F, R⟩ := p2
    exact ⟨rfl, R.kept.below⟩
  · exfalso
    unfold enters at hn
    cases hfn : C.P.funcs[f]? with
    | none => rw [hfn] at hn; cases hn
    | some fn =>
      rw [hfn] at hn
      simp only [Bool.and_eq_true, bne_iff_ne, ne_eq] at hn
      have h1 : ¬ fn.name = "runtime.NumGoroutine" := hn.1
      have h2 : fn.body.isNone = false := by
        cases hb : fn.body with
        | none => rw [hb] at hn; exact absurd hn.2 (by simp)
        | some _ => rfl
      simp only [callFunc, run_program, Sem.run_bind, Result.andThen_ok, hfn] at hv
      simp [h1, h2] at hv
section
variable {H' : Type} {enc : TypeId × Value → H'} {W : World}
theorem b3 : Tryd.prog.cellsOf 3 = 1 := by kernel_rfl
theorem b9 : Tryd.prog.cellsOf 9 = 1 := by kernel_rfl
theorem b23 : Tryd.prog.cellsOf 23 = 1 := by kernel_rfl
theorem b71 : Tryd.prog.cellsOf 71 = 1 := by kernel_rfl
theorem b22 : Tryd.prog.cellsOf 22 = 1 := by kernel_rfl
theorem opn_ints : Go.W.Opn enc Tryd.prog W 23 fun xs => ∃ l : List Int, xs = [.f 1 (l.map iV)] := by
  have e1 : Go.W.Opn enc Tryd.prog W 23 fun xs => ∃ els, xs = [.f 1 els] ∧ ∀ el ∈ els, ∃ b : Int, el = iV b := opn_slice (n := 0) Tryd.underlying23 (by kernel_rfl) ((opn_int Tryd.underlying3).mono fun xs ⟨n, e, _⟩ => ⟨n, e⟩)
  refine e1.mono fun xs ⟨els, e, h⟩ => ?_
  obtain ⟨l, rfl⟩ := map_of h
  exact ⟨l, e⟩
theorem opn_ins : Go.W.Opn enc Tryd.prog W 118 fun xs => ∃ x : Ins, xs = insV x := by
  refine (opn_struct (gs := [_, _]) Tryd.underlying118 (by kernel_rfl) ⟨rfl, opn_int Tryd.underlying3, by simp only [b3], opn_int Tryd.underlying3, rfl⟩).mono fun xs g => ?_
  obtain ⟨_, _, rfl, ⟨n, rfl, _⟩, _, _, rfl, ⟨s, rfl, _⟩, rfl⟩ := g
  exact ⟨⟨n, s⟩, rfl⟩
theorem opn_inss : Go.W.Opn enc Tryd.prog W 71 fun xs => ∃ l : List Ins, xs = [.f 2 (l.map insV)] := by
  have e1 : Go.W.Opn enc Tryd.prog W 71 fun xs => ∃ els, xs = [.f 2 els] ∧ ∀ el ∈ els, ∃ x : Ins, el = insV x := opn_slice (n := 1) Tryd.underlying71 (by kernel_rfl) opn_ins
  refine e1.mono fun xs ⟨els, e, h⟩ => ?_
  obtain ⟨l, rfl⟩ := map_of h
  exact ⟨l, e⟩
theorem opn_fn : Go.W.Opn enc Tryd.prog W 73 fun xs => ∃ f : IFun, xs = fnV f := by
  refine (opn_struct (gs := [_, _, _, _, _, _]) Tryd.underlying73 (by kernel_rfl) ⟨rfl, opn_str Tryd.underlying9, by simp only [b9], opn_str Tryd.underlying9, by simp only [b9], opn_ints, by simp only [b9, b23], opn_int Tryd.underlying3, by simp only [b9, b23, b3], opn_int Tryd.underlying3, by simp only [b9, b23, b3], opn_inss, rfl⟩).mono fun xs g => ?_
  obtain ⟨_, _, rfl, ⟨m, rfl⟩, _, _, rfl, ⟨n, rfl⟩, _, _, rfl, ⟨l, rfl⟩, _, _, rfl, ⟨t, rfl, _⟩, _, _, rfl, ⟨s, rfl, _⟩, _, _, rfl, ⟨c, rfl⟩, rfl⟩ := g
  exact ⟨⟨m, n, l, t, s, c⟩, rfl⟩
theorem opn_fns : Go.W.Opn enc Tryd.prog W 22 fun xs => ∃ l : List IFun, xs = [.f 6 (l.map fnV)] := by
  have e1 : Go.W.Opn enc Tryd.prog W 22 fun xs => ∃ els, xs = [.f 6 els] ∧ ∀ el ∈ els, ∃ x : IFun, el = fnV x := opn_slice (n := 5) Tryd.underlying22 (by kernel_rfl) opn_fn
  refine e1.mono fun xs ⟨els, e, h⟩ => ?_
  obtain ⟨l, rfl⟩ := map_of h
  exact ⟨l, e⟩
theorem opn_img : Go.W.Opn enc Tryd.prog W 25 fun xs => ∃ m : Img, xs = imgV m := by
  refine (opn_struct (gs := [_, _]) Tryd.underlying25 (by kernel_rfl) ⟨rfl, opn_fns, by simp only [b22], opn_ints, rfl⟩).mono fun xs g => ?_
  obtain ⟨_, _, rfl, ⟨f, rfl⟩, _, _, rfl, ⟨l, rfl⟩, rfl⟩ := g
  exact ⟨⟨f, l⟩, rfl⟩
end
theorem words_stay {H : Type} {enc : TypeId × Value → H} {W W' : World} {gs : List (DataW H)} {q : List MemPlace} (hV : DataW.TrodVars enc Tryd.prog W (fun _ => true) ["loop.example/smithy/impl.primWords"] gs q) (bel : Below W.heap.size W W') :
    DataW.TrodVars enc Tryd.prog W' (fun b => decide (b < W.heap.size)) ["loop.example/smithy/impl.primWords"] gs q := by
  obtain ⟨g, t, cs, fuel, d, p', rfl, hg, ht, hvar, hd, rfl⟩ := trodVars_one hV
  obtain rfl := Option.some.inj (gWords.symm.trans hg)
  obtain rfl := Option.some.inj (tWords.symm.trans ht)
  have lt : ∀ x ∈ p', x.block < W.heap.size := DataW.trod_lt fuel _ _ _ hd
  have hT : DataW.Trod enc Tryd.prog W 0 (fun _ => true) true 123 (.agg cs) d p' := ⟨fuel, hd⟩
  obtain ⟨fuel', h'⟩ := Below.trod laidOut0 (by kernel_rfl) (of_decide_eq_true (by kernel_rfl)) hT bel lt
  have h0 : 0 < W.heap.size := by
    unfold World.var? at hvar
    rw [hg] at hvar
    simp only [Option.bind_some] at hvar
    by_cases z : 0 < W.heap.size
    · exact z
    · rw [Array.getElem?_eq_none (by omega)] at hvar; cases hvar
  have hv' : W'.var? Tryd.prog "loop.example/smithy/impl.primWords" = some cs := by
    rw [← hvar]
    simp only [World.var?, hg, Option.bind_some, bel.block 0 h0]
  exact trodVars_mk1 hg ht hv' h'
end Go.Proofs.YtijefmjfdhfjmaaDoor
