/- What functions of the program answer, walked on the abstract layer, and closed facts of the program; the conditions stand in each theorem. -/
import Derived.Test.YtlhkfjannhhcbaaGreatDoorG4
/- part B21 -/
set_option linter.unusedVariables false
set_option linter.unusedSimpArgs false
set_option maxRecDepth 100000
namespace Go.Proofs.YtlhkfjannhhcbaaGreatDoor
open Go Go.W Go.RowKit
theorem new27 (l : List Int) (hl : l.length ≤ 1048576) : NewV C 27 [.f 1 (l.map iV)] 1 (l.map iV) := by
  refine calls_of_run Tryz.func27 rfl (by kernel_rfl) (by kernel_rfl) (by simp) 1000 ?_
  have enr : ∀ x, (iV x).all nr = true := fun _ => rfl
  have z1 := fun n => nrs_replicate (el := [V.s (.int .i64 0)]) rfl n
  have b0 : (0 : Int) ≤ l.length := by omega
  have b1 : (8 : Int) * l.length ≤ 140737488355328 := by omega
  have b2 : (l.length : Int) ≤ 4611686018427387904 := by omega
  simp +contextual (maxSteps := 2000000) (disch := ((try unfold LIM at *); omega)) only [↓bcT, ↓bcF, WA, simprocAttr, wrI, List.length_map, b0, b1, b2, Int.le_refl]
  intro hl'
  refine LoopThen.own (ι := Nat) (fun i => i ≤ l.length) (fun i => [(0, .f 1 (l.map iV)), (3, .sl 0 0 l.length l.length), (4, .s (.int .i64 i))]) (fun i => [⟨(l.take i).map iV ++ List.replicate (l.length - i) [V.s (.int .i64 0)], 1, l.length, true⟩]) (fun i => l.length - i)
    1000 1000 ⟨0, Nat.zero_le _, [0], by simp, by simp +contextual (maxSteps := 2000000) (disch := ((try unfold LIM at *); omega)) only [↓bcT, ↓bcF, WA, simprocAttr, wrI, z1, Nat.sub_zero, true_or], by simp +contextual (maxSteps := 2000000) (disch := ((try unfold LIM at *); omega)) only [↓bcT, ↓bcF, WA, simprocAttr, wrI]⟩ ?_
  intro i p1
  by_cases c2 : (i : Int) < l.length
  · obtain ⟨f, hf⟩ := get_lt c2
    have pi : (0 : Int) ≤ i := by omega
    obtain ⟨k, hk⟩ : ∃ k, l.length - i = k + 1 := ⟨l.length - i - 1, by omega⟩
    have hl1 : ((l.take i).map iV).length = i := by simp; omega
    have g1 : ((l.take i).map iV ++ List.replicate (l.length - i) [V.s (.int .i64 0)])[i]? = some [V.s (.int .i64 0)] := by rw [fill_get _ _ hl1, hk]; rfl
    have g2 : ((l.take i).map iV ++ List.replicate (l.length - i) [V.s (.int .i64 0)]).set i (iV f) = (l.take (i + 1)).map iV ++ List.replicate (l.length - (i + 1)) [V.s (.int .i64 0)] := by
      rw [hk, fill_set _ _ _ _ _ hl1, List.take_add_one, hf, show l.length - (i + 1) = k by omega]; simp
    have g3 : nrs ((l.take (i + 1)).map iV ++ List.replicate (l.length - (i + 1)) [V.s (.int .i64 0)]) = true := by rw [nrs_append, nrs_map enr, z1]; rfl
    simp +contextual (maxSteps := 2000000) (disch := ((try unfold LIM at *); omega)) only [↓bcT, ↓bcF, WA, simprocAttr, wrI, List.length_map, hl', c2, hf, pi, iV, g1]
    simp only [iV] at g2 g3
    simp +contextual (maxSteps := 2000000) (disch := ((try unfold LIM at *); omega)) only [↓bcT, ↓bcF, WA, simprocAttr, wrI, iV, g1, g2, List.length_map, pi, c2, cast_succ]
    exact ⟨i + 1, ⟨by omega, by omega⟩, [0], by simp, ⟨.inl ⟨g3, rfl⟩, trivial⟩, by simp +contextual (maxSteps := 2000000) (disch := ((try unfold LIM at *); omega)) only [↓bcT, ↓bcF, WA, simprocAttr, wrI, nm_at]⟩
  · have e : i = l.length := by omega
    subst e
    have g4 : (l.take l.length).map iV ++ List.replicate (l.length - l.length) [V.s (.int .i64 0)] = l.map iV := by simp
    simp +contextual (maxSteps := 2000000) (disch := ((try unfold LIM at *); omega)) only [↓bcT, ↓bcF, WA, simprocAttr, wrI, List.length_map, hl', c2, g4]
    exact Up.fresh (b := 0) rfl (nrs_map enr _) ⟨l.length, Nat.le_refl _, rfl, rfl⟩
theorem new62 (l : List Ins) (hl : l.length ≤ 1048576) : NewV C 62 [.f 2 (l.map insV)] 2 (l.map insV) := by
  refine calls_of_run Tryz.func62 rfl (by kernel_rfl) (by kernel_rfl) (by simp) 1000 ?_
  have enr : ∀ x, (insV x).all nr = true := fun _ => rfl
  have z1 := fun n => nrs_replicate (el := [V.s (.int .i64 0), .s (.int .i64 0)]) rfl n
  have b0 : (0 : Int) ≤ l.length := by omega
  have b1 : (16 : Int) * l.length ≤ 140737488355328 := by omega
  have b2 : (l.length : Int) ≤ 4611686018427387904 := by omega
  simp +contextual (maxSteps := 2000000) (disch := ((try unfold LIM at *); omega)) only [↓bcT, ↓bcF, WA, simprocAttr, wrI, List.length_map, b0, b1, b2, Int.le_refl]
  intro hl'
  refine LoopThen.own (ι := Nat) (fun i => i ≤ l.length) (fun i => [(0, .f 2 (l.map insV)), (3, .sl 0 0 l.length l.length), (4, .s (.int .i64 i))]) (fun i => [⟨(l.take i).map insV ++ List.replicate (l.length - i) [V.s (.int .i64 0), .s (.int .i64 0)], 2, l.length, true⟩]) (fun i => l.length - i)
    1000 1000 ⟨0, Nat.zero_le _, [0], by simp, by simp +contextual (maxSteps := 2000000) (disch := ((try unfold LIM at *); omega)) only [↓bcT, ↓bcF, WA, simprocAttr, wrI, z1, Nat.sub_zero, true_or], by simp +contextual (maxSteps := 2000000) (disch := ((try unfold LIM at *); omega)) only [↓bcT, ↓bcF, WA, simprocAttr, wrI]⟩ ?_
  intro i p1
  by_cases c2 : (i : Int) < l.length
  · obtain ⟨f, hf⟩ := get_lt c2
    have pi : (0 : Int) ≤ i := by omega
    obtain ⟨k, hk⟩ : ∃ k, l.length - i = k + 1 := ⟨l.length - i - 1, by omega⟩
    have hl1 : ((l.take i).map insV).length = i := by simp; omega
    have g1 : ((l.take i).map insV ++ List.replicate (l.length - i) [V.s (.int .i64 0), .s (.int .i64 0)])[i]? = some [V.s (.int .i64 0), .s (.int .i64 0)] := by rw [fill_get _ _ hl1, hk]; rfl
    have g2 : ((l.take i).map insV ++ List.replicate (l.length - i) [V.s (.int .i64 0), .s (.int .i64 0)]).set i (insV f) = (l.take (i + 1)).map insV ++ List.replicate (l.length - (i + 1)) [V.s (.int .i64 0), .s (.int .i64 0)] := by
      rw [hk, fill_set _ _ _ _ _ hl1, List.take_add_one, hf, show l.length - (i + 1) = k by omega]; simp
    have g3 : nrs ((l.take (i + 1)).map insV ++ List.replicate (l.length - (i + 1)) [V.s (.int .i64 0), .s (.int .i64 0)]) = true := by rw [nrs_append, nrs_map enr, z1]; rfl
    simp +contextual (maxSteps := 2000000) (disch := ((try unfold LIM at *); omega)) only [↓bcT, ↓bcF, WA, simprocAttr, wrI, List.length_map, hl', c2, hf, pi, insV, g1]
    refine CallThen.pure (walk91 f) 1000 ?_
    simp only [insV] at g2 g3
    simp +contextual (maxSteps := 2000000) (disch := ((try unfold LIM at *); omega)) only [↓bcT, ↓bcF, WA, simprocAttr, wrI, insV, g1, g2, List.length_map, pi, c2, cast_succ]
    exact ⟨i + 1, ⟨by omega, by omega⟩, [0], by simp, ⟨.inl ⟨g3, rfl⟩, trivial⟩, by simp +contextual (maxSteps := 2000000) (disch := ((try unfold LIM at *); omega)) only [↓bcT, ↓bcF, WA, simprocAttr, wrI, nm_at]⟩
  · have e : i = l.length := by omega
    subst e
    have g4 : (l.take l.length).map insV ++ List.replicate (l.length - l.length) [V.s (.int .i64 0), .s (.int .i64 0)] = l.map insV := by simp
    simp +contextual (maxSteps := 2000000) (disch := ((try unfold LIM at *); omega)) only [↓bcT, ↓bcF, WA, simprocAttr, wrI, List.length_map, hl', c2, g4]
    exact Up.fresh (b := 0) rfl (nrs_map enr _) ⟨l.length, Nat.le_refl _, rfl, rfl⟩
def fnO (f : IFun) (b1 c1 b2 c2 : Nat) : List V := [.s (.string f.mod), .s (.string f.name), .sl b1 0 f.args.length c1, .s (.int .i64 f.typ), .s (.int .i64 f.slots), .sl b2 0 f.code.length c2]
theorem new44 (f : IFun) (h1 : f.args.length ≤ 1048576) (h2 : f.code.length ≤ 1048576) : CallsV C 44 [.agg (fnV f)] [] fun res h' => ∃ c1 c2, f.args.length ≤ c1 ∧ f.code.length ≤ c2 ∧ res = .ret (.agg (fnO f 0 c1 1 c2)) ∧ h' = [⟨f.args.map iV, 1, c1, true⟩, ⟨f.code.map insV, 2, c2, true⟩] := by
  refine calls_of_run Tryz.func44 rfl (by kernel_rfl) (by kernel_rfl) (by simp) 1000 ?_
  simp +contextual (maxSteps := 2000000) (disch := ((try unfold LIM at *); omega)) only [↓bcT, ↓bcF, WA, simprocAttr, wrI, fnV]
  refine CallThen.new (new27 f.args h1) (nrs_map iV_nr _) (fun _ => rfl) 1000 fun c1 hc1 => ?_
  rw [List.length_map] at hc1
  simp +contextual (maxSteps := 2000000) (disch := ((try unfold LIM at *); omega)) only [↓bcT, ↓bcF, WA, simprocAttr, wrI, fnV, List.length_map]
  refine CallThen.new (new62 f.code h2) (nrs_map insV_nr _) (fun _ => rfl) 1000 fun c2 hc2 => ?_
  rw [List.length_map] at hc2
  simp +contextual (maxSteps := 2000000) (disch := ((try unfold LIM at *); omega)) only [↓bcT, ↓bcF, WA, simprocAttr, wrI, fnV, List.length_map]
  refine Up.gc (.agg (fnO f 0 c1 1 c2)) [3, 4] [⟨f.args.map iV, 1, c1, true⟩, ⟨f.code.map insV, 2, c2, true⟩] (by simp) ⟨.inl ⟨nrs_map iV_nr _, rfl⟩, .inl ⟨nrs_map insV_nr _, rfl⟩, trivial⟩ rfl ⟨c1, c2, hc1, hc2, rfl, rfl⟩
theorem new26 (l : List IFun) (hl : l.length ≤ 1048576) (hf2 : ∀ f ∈ l, f.args.length ≤ 1048576 ∧ f.code.length ≤ 1048576) : NewV C 26 [.f 6 (l.map fnV)] 6 (l.map fnL) := by
  refine calls_of_run Tryz.func26 rfl (by kernel_rfl) (by kernel_rfl) (by simp) 1000 ?_
  have z1 := fun n => nrs_replicate (el := [V.s (.string ⟨#[]⟩), .s (.string ⟨#[]⟩), .z, .s (.int .i64 0), .s (.int .i64 0), .z]) rfl n
  have b0 : (0 : Int) ≤ l.length := by omega
  have b1 : (96 : Int) * l.length ≤ 140737488355328 := by omega
  have b2 : (l.length : Int) ≤ 4611686018427387904 := by omega
  simp +contextual (maxSteps := 2000000) (disch := ((try unfold LIM at *); omega)) only [↓bcT, ↓bcF, WA, simprocAttr, wrI, List.length_map, b0, b1, b2, Int.le_refl]
  intro hl'
  refine LoopThen.ownF 0 (ι := Nat) (fun i => i ≤ l.length) (fun i => [(0, .f 6 (l.map fnV)), (3, .sl 0 0 l.length l.length), (4, .s (.int .i64 i))]) (fun i => [⟨(l.take i).map fnL ++ List.replicate (l.length - i) [V.s (.string ⟨#[]⟩), .s (.string ⟨#[]⟩), .z, .s (.int .i64 0), .s (.int .i64 0), .z], 6, l.length, true⟩]) (fun i => l.length - i)
    1000 1000 ⟨0, Nat.zero_le _, [], [0], by simp, by simp +contextual (maxSteps := 2000000) (disch := ((try unfold LIM at *); omega)) only [↓bcT, ↓bcF, WA, simprocAttr, wrI, folds_nil, z1, Nat.sub_zero, true_or], by simp +contextual (maxSteps := 2000000) (disch := ((try unfold LIM at *); omega)) only [↓bcT, ↓bcF, WA, simprocAttr, wrI, folds_nil]⟩ ?_
  intro i p1
  by_cases c2 : (i : Int) < l.length
  · obtain ⟨f, hf1⟩ := get_lt c2
    have hff := hf2 f (List.mem_of_getElem? hf1)
    have pi : (0 : Int) ≤ i := by omega
    obtain ⟨k, hk⟩ : ∃ k, l.length - i = k + 1 := ⟨l.length - i - 1, by omega⟩
    have hl1 : ((l.take i).map fnL).length = i := by simp; omega
    have g1 : ((l.take i).map fnL ++ List.replicate (l.length - i) [V.s (.string ⟨#[]⟩), .s (.string ⟨#[]⟩), .z, .s (.int .i64 0), .s (.int .i64 0), .z])[i]? = some [V.s (.string ⟨#[]⟩), .s (.string ⟨#[]⟩), .z, .s (.int .i64 0), .s (.int .i64 0), .z] := by rw [fill_get _ _ hl1, hk]; rfl
    have g2 : ∀ x, ((l.take i).map fnL ++ List.replicate (l.length - i) [V.s (.string ⟨#[]⟩), .s (.string ⟨#[]⟩), .z, .s (.int .i64 0), .s (.int .i64 0), .z]).set i x = (l.take i).map fnL ++ x :: List.replicate k [V.s (.string ⟨#[]⟩), .s (.string ⟨#[]⟩), .z, .s (.int .i64 0), .s (.int .i64 0), .z] := by
      intro x; rw [hk, fill_set _ _ _ _ _ hl1]; simp
    simp +contextual (maxSteps := 2000000) (disch := ((try unfold LIM at *); omega)) only [↓bcT, ↓bcF, WA, simprocAttr, wrI, List.length_map, hl', c2, hf1, pi, fnV]
    refine CallThen.of 1000 (CallsV.frameL (new44 f hff.1 hff.2) [] _ (by simp) trivial rfl) fun res h' hx => ?_
    obtain ⟨r, h1, ⟨c1, d1, k1, k2, k3, k4⟩, k5, k6, k7⟩ := hx
    subst k3; subst k4; subst k6; subst k7
    have rn2 : ∀ ρ, rnB ρ ⟨f.code.map insV, 2, d1, true⟩ = ⟨f.code.map insV, 2, d1, true⟩ := fun ρ => nrs_rn _ (nrs_map insV_nr _)
    have rn3 : ∀ ρ, ((f.code.map insV).map fun el => el.map (rnC ρ)) = f.code.map insV := fun ρ => congrArg Blk.els (rn2 ρ)
    simp +contextual (maxSteps := 2000000) (disch := ((try unfold LIM at *); omega)) only [↓bcT, ↓bcF, WA, simprocAttr, wrI, List.length_map, c2, pi, fnO, rnRes, iV_rn, rn3, g1, g2, cast_succ, WB7, WB8]
    refine ⟨i + 1, ⟨by omega, by omega⟩, [(0, i, 2), (0, i, 5)], [0], by simp, ?_, by simp +contextual (maxSteps := 2000000) (disch := ((try unfold LIM at *); omega)) only [↓bcT, ↓bcF, WA, simprocAttr, wrI, folds_length]⟩
    rw [folds_cons, foldC_sl (b1 := 1) rfl (mid_get hl1) rfl rfl (by rw [List.length_map]) (nrs_map iV_nr _) (by simp)]
    simp only [List.set_cons_zero, List.set_cons_succ, mid_set hl1]
    rw [folds_one, foldC_sl (b1 := 2) rfl (mid_get hl1) rfl rfl (by rw [List.length_map]) (nrs_map insV_nr _) (by simp)]
    have g3 : (l.take (i + 1)).map fnL = (l.take i).map fnL ++ [fnL f] := by rw [List.take_add_one, hf1]; simp
    have g5 : ∀ x y, ((l.take i).map fnL ++ x :: List.replicate k y).set i (fnL f) = (l.take (i + 1)).map fnL ++ List.replicate (l.length - (i + 1)) y := by
      intro x y; rw [mid_set hl1, g3, show l.length - (i + 1) = k by omega]; simp
    refine ⟨.inl ⟨?_, ?_⟩, trivial⟩
    · simp only [nrs_append, nrs_map fnL_nr, z1, Bool.and_self]
    · show some _ = some _
      exact congrArg some (congrArg (fun e => (⟨e, 6, l.length, true⟩ : Blk)) (g5 _ _))
  · have e : i = l.length := by omega
    subst e
    have g4 : (l.take l.length).map fnL ++ List.replicate (l.length - l.length) [V.s (.string ⟨#[]⟩), .s (.string ⟨#[]⟩), .z, .s (.int .i64 0), .s (.int .i64 0), .z] = l.map fnL := by simp
    simp +contextual (maxSteps := 2000000) (disch := ((try unfold LIM at *); omega)) only [↓bcT, ↓bcF, WA, simprocAttr, wrI, List.length_map, hl', c2, g4, WB7, WB8]
    exact Up.fresh (b := 0) rfl (nrs_map fnL_nr _) ⟨l.length, Nat.le_refl _, rfl, rfl⟩
theorem new8 (m : Img) (h1 : m.funs.length ≤ 1048576) (h2 : m.mains.length ≤ 1048576) (h3 : ∀ f ∈ m.funs, f.args.length ≤ 1048576 ∧ f.code.length ≤ 1048576) : CallsV C 8 [.agg (imgV m)] [] fun res h' => ∃ c1 c2, m.funs.length ≤ c1 ∧ m.mains.length ≤ c2 ∧ res = .ret (.agg [.sl 0 0 m.funs.length c1, .sl 1 0 m.mains.length c2]) ∧ h' = [⟨m.funs.map fnL, 6, c1, true⟩, ⟨m.mains.map iV, 1, c2, true⟩] := by
  refine calls_of_run Tryz.func8 rfl (by kernel_rfl) (by kernel_rfl) (by simp) 1000 ?_
  simp +contextual (maxSteps := 2000000) (disch := ((try unfold LIM at *); omega)) only [↓bcT, ↓bcF, WA, simprocAttr, wrI, imgV]
  refine CallThen.new (new26 m.funs h1 h3) (nrs_map fnL_nr _) (fun _ => rfl) 1000 fun c1 hc1 => ?_
  rw [List.length_map] at hc1
  simp +contextual (maxSteps := 2000000) (disch := ((try unfold LIM at *); omega)) only [↓bcT, ↓bcF, WA, simprocAttr, wrI, List.length_map]
  refine CallThen.new (new27 m.mains h2) (nrs_map iV_nr _) (fun _ => rfl) 1000 fun c2 hc2 => ?_
  rw [List.length_map] at hc2
  simp +contextual (maxSteps := 2000000) (disch := ((try unfold LIM at *); omega)) only [↓bcT, ↓bcF, WA, simprocAttr, wrI, List.length_map]
  refine Up.gc (.agg [.sl 0 0 m.funs.length c1, .sl 1 0 m.mains.length c2]) [3, 4] [⟨m.funs.map fnL, 6, c1, true⟩, ⟨m.mains.map iV, 1, c2, true⟩] (by simp) ⟨.inl ⟨nrs_map fnL_nr _, rfl⟩, .inl ⟨nrs_map iV_nr _, rfl⟩, trivial⟩ rfl ⟨c1, c2, hc1, hc2, rfl, rfl⟩
theorem calls12 (m : Img) (c1 c2 : Nat) (h1 : m.funs.length ≤ 1048576) (h2 : m.mains.length ≤ 1048576) (h3 : ∀ f ∈ m.funs, f.args.length ≤ 1048576 ∧ f.code.length ≤ 1048576) (h4 : totF m.funs ≤ 800000000) (hc1 : m.funs.length ≤ c1) (hc2 : m.mains.length ≤ c2) :
    CallsV C 12 [.agg [.sl 0 0 m.funs.length c1, .sl 1 0 m.mains.length c2], .s (.int .i64 1)] [⟨m.funs.map fnL, 6, c1, true⟩, ⟨m.mains.map iV, 1, c2, true⟩] fun res h' => ∃ n : Nat, res = .ret (.s (.int .i64 n)) ∧ h' = [Blk.dead, Blk.dead] := by
  refine calls_of_run Tryz.func12 rfl (by kernel_rfl) (by kernel_rfl) (by simp) 1000 ?_
  simp +contextual (maxSteps := 2000000) (disch := ((try unfold LIM at *); omega)) only [↓bcT, ↓bcF, WA, simprocAttr, wrI]
  refine CallThen.of 1000 (CallsV.frameL (walk32 m.funs 1 c1 h1 h3 hc1 (by decide) (by omega)) [0] _ (by simp) ⟨.inl ⟨nrs_map fnL_nr _, rfl⟩, trivial⟩ rfl) fun res h' hx => ?_
  obtain ⟨r, hh, ⟨k1, els, k2, k3⟩, k5, k6, k7⟩ := hx
  subst k1; subst k3; subst k6; subst k7
  simp +contextual (maxSteps := 2000000) (disch := ((try unfold LIM at *); omega)) only [↓bcT, ↓bcF, WA, simprocAttr, wrI, rnRes]
  refine CallThen.edit (walk13 m.mains _ c2 h2 hc2 (by omega) (by omega)) [1] (by simp) ⟨.inl ⟨nrs_map iV_nr _, rfl⟩, trivial⟩ rfl 1000 ?_
  simp +contextual (maxSteps := 2000000) (disch := ((try unfold LIM at *); omega)) only [↓bcT, ↓bcF, WA, simprocAttr, wrI, WB8]
  refine Up.gcM (.s (.int .i64 ((1 + totF m.funs + m.mains.length : Nat) : Int))) [] [] [0, 1] [Blk.dead, Blk.dead] (show List.Nodup [] from List.nodup_nil) rfl ⟨.inl rfl, .inl rfl, trivial⟩ ?_ ⟨_, rfl, rfl⟩
  show V.s _ = V.s _
  congr 2
end Go.Proofs.YtlhkfjannhhcbaaGreatDoor
/- part B22 -/
set_option linter.unusedVariables false
set_option linter.unusedSimpArgs false
set_option maxRecDepth 100000
namespace Go.Proofs.YtlhkfjannhhcbaaGreatDoor
open Go Go.W Go.RowKit
theorem szFn_fit (f : IFun) (left : Int) (h : 0 ≤ szFn f left) : (f.args.length : Int) + f.code.length + szFn f left ≤ left := by
  unfold szFn at h ⊢
  split
  · rename_i h1; rw [if_pos h1] at h; omega
  rename_i h1
  rw [if_neg h1] at h
  split
  · rename_i h2; rw [if_pos h2] at h; omega
  rename_i h2
  rw [if_neg h2] at h
  split
  · rename_i h3; rw [if_pos h3] at h; omega
  rename_i h3
  rw [if_neg h3] at h
  unfold lenL at h h3 ⊢
  split at h3
  · omega
  rename_i h4
  rw [if_neg h4] at h ⊢
  split at h
  · omega
  rename_i h5
  rw [if_neg h5]
  omega
theorem kbud_tot : ∀ {l : List IFun} {left : Int}, 0 ≤ kbud szFn l left → 0 ≤ left → left ≤ 1048576 → (totF l : Int) ≤ 4 * l.length + 2 * left
  | [], left, h, h0, h1 => by simp [totF]; omega
  | f :: r, left, h, h0, h1 => by
    rw [kbud] at h
    split at h
    · omega
    rename_i hs
    have hr := szFn_range f left h0 h1
    have i1 := kbud_tot h (by omega) (by omega)
    have key := szFn_fit f left (by omega)
    simp only [totF, tot1, List.length_cons]
    omega
theorem szImg_tot {m : Img} (h : ¬ szImg m 1048576 < 0) : totF m.funs ≤ 800000000 := by
  obtain ⟨h1, _, _, _⟩ := szImg_len h
  unfold szImg at h
  split at h
  · omega
  rename_i h2
  unfold kszS at h2
  split at h2
  · omega
  have := kbud_tot (l := m.funs) (left := 1048576 - m.funs.length) (by omega) (by omega) (by omega)
  omega
theorem fnL_frz (n0 d : Nat) (h : H) (l : List IFun) : ((l.map fnL).map fun el => el.map (frz n0 d h)) = l.map fnV := by
  have fc : ∀ l : List Ins, fzss (l.map insV) = l.map insV := fun l => by rw [fzss_map, List.map_map]; exact List.map_congr_left fun b _ => rfl
  rw [List.map_map]
  refine List.map_congr_left fun f _ => ?_
  show (fnL f).map (frz n0 d h) = fnV f
  unfold fnL fnV
  simp only [List.map_cons, List.map_nil]
  cases d <;> simp only [frz, fzss_iV, fc]
theorem own_fn {l : List IFun} {cap : Nat} : elsOf 0 l.length (some ⟨l.map fnL, 6, cap, true⟩) = some (l.map fnL) := by simp [elsOf, List.take_of_length_le]
theorem own_iv {l : List Int} {cap : Nat} : elsOf 0 l.length (some ⟨l.map iV, 1, cap, true⟩) = some (l.map iV) := by simp [elsOf, List.take_of_length_le]
end Go.Proofs.YtlhkfjannhhcbaaGreatDoor
/- part M2 -/
set_option linter.unusedVariables false
set_option linter.unusedSimpArgs false
set_option maxRecDepth 100000
namespace Go.Proofs.YtlhkfjannhhcbaaGreatDoor
open Go Go.W Go.RowKit
theorem rowV_nr (k : Int) (r : List Int) : nr (rowV k r) = true := by unfold rowV; split <;> rfl
theorem rowV_cases (k : Int) (r : List Int) : rowV k r = .f 1 (r.map iV) ∨ rowV k r = .z := by unfold rowV; split <;> simp
theorem valV_nr (v : Val) : (valV v).all nr = true := by rcases rowV_cases v.k v.row with e | e <;> simp only [valV, e] <;> rfl
theorem rowV_rn (ρ : Nat → Nat) (k : Int) (r : List Int) : rnC ρ (rowV k r) = rowV k r := by rcases rowV_cases k r with e | e <;> rw [e] <;> rfl
theorem rowV_cellOk (k : Int) (r : List Int) : cellOk (rowV k r) = true := by rcases rowV_cases k r with e | e <;> rw [e] <;> rfl
theorem valV_ok (v : Val) : (valV v).all cellOk = true := by rcases rowV_cases v.k v.row with e | e <;> simp only [valV, e] <;> rfl
def endV (e t : Int) : V := .s (.iface 82 (.agg #[.int .i64 e, .int .i64 t]))
theorem conc82 : C.P.concrete 82 = true := by kernel_rfl
theorem panQ {D : Cx} {n0 : Nat} {fn : Func} {R : Res → H → Prop} {v : V} {τ : Tau} {h : H} (hr : R (.pan v) h) : bodyQ D n0 fn R (.pan v) τ h := Up.refl (r := .pan v) hr
def frB (fn : Int) (d : Nat) (fr : Fr) : Blk := ⟨[[.s (.int .i64 fn), .s (.int .i64 fr.pc), .s (.int .i64 d), .l 3 (fr.stack.map valV), .l 3 (fr.slots.map valV)]], 5, 1, true⟩
def xB (m : Img) (fuel : Nat) (mc : Mc) (A B : V) : Blk := ⟨[[.f 6 (m.funs.map fnV), .f 1 (m.mains.map iV), .s (.int .i64 fuel), .s (.int .i64 mc.steps), .l 1 (mc.out.map iV), A, B]], 7, 1, true⟩
theorem fr_nr (fn : Int) (d : Nat) (fr : Fr) : nrs (frB fn d fr).els = true := rfl
theorem rnB_fr (ρ : Nat → Nat) (fn : Int) (d : Nat) (fr : Fr) : rnB ρ (frB fn d fr) = frB fn d fr := nrs_rn _ (fr_nr fn d fr)
theorem did48 : DidP C 48 [] [] none (endV 3 0) [] := by
  show CallsV C 48 [] [] _
  refine calls_of_run Tryz.func48 rfl (by kernel_rfl) (by kernel_rfl) (by simp) 1000 ?_
  simp +contextual (maxSteps := 2000000) (disch := ((try unfold LIM at *); omega)) only [↓bcT, ↓bcF, WA, simprocAttr, wrI, endV, conc82]
  exact Up.refl (r := .pan _) ⟨rfl, _, rfl⟩
section
variable {N n0 : Nat} {Q : QT} {k : List It} {τ : Tau} {h : H} {d : Option Nat}
theorem CallThen.wrong (hp : ∀ t, Q (.pan (endV 3 0)) τ (h ++ t)) : CallThen C N n0 Q 48 [] d k τ h :=
  CallThen.did did48 [] [] [] h rfl (by simp) trivial rfl (fun _ => rfl) 0 (fun q e => by cases e) (fun _ t _ => by rw [List.map_nil, List.nil_append, setAll_nil]; exact hp t)
end
def popO (st : List Val) (k : Int) : Option (Val × List Val) := match st.getLast? with
  | none => none
  | some v => if k ≠ 0 ∧ v.k ≠ k then none else some (v, st.dropLast)
def popR (fn : Int) (d : Nat) (fr : Fr) (k : Int) : Option (V × H) := (popO fr.stack k).map fun q => (.agg (valV q.1), [frB fn d ⟨fr.pc, q.2, fr.slots⟩])
theorem fold_pop {els els' : List (List V)} {x0 x1 x2 y : V} {len cap : Nat} (he : els.take len = els') (hl : els'.length = len) (hn : nrs els' = true) (z u : Blk) :
    folds (shrinks [⟨[[x0, x1, x2, .sl 2 0 len cap, y]], 5, 1, true⟩, z, ⟨els, 3, cap, true⟩, u] [(2, len)]) [(0, 0, 3)] = [⟨[[x0, x1, x2, .l 3 els', y]], 5, 1, true⟩, z, Blk.dead, u] := by
  simp [shrinks, shr1, folds, foldC, foldK, rdC, rdB, refB, ownOf, elsB, wrH, wrB, wrE, wrL, he, hl, hn]
theorem did72 (fn : Int) (d : Nat) (fr : Fr) (k : Int) (hl : fr.stack.length ≤ 100) : DidP C 72 [.ptr 0 0 0, .s (.int .i64 k)] [frB fn d fr] (popR fn d fr k) (endV 3 0) [] := by
  show CallsV C 72 _ _ _
  refine calls_of_run Tryz.func72 rfl (by kernel_rfl) (by kernel_rfl) (by simp) 1000 ?_
  obtain ⟨pc, st, sl⟩ := fr
  rcases List.eq_nil_or_concat st with rfl | ⟨l, v, rfl⟩
  · have e : popR fn d ⟨pc, [], sl⟩ k = none := rfl
    rw [e]
    simp +contextual (maxSteps := 2000000) (disch := ((try unfold LIM at *); omega)) only [↓bcT, ↓bcF, WA, simprocAttr, wrI, frB, List.length_map]
    intro cap hc
    exact CallThen.wrong fun t => panQ ⟨rfl, _, rfl⟩
  · simp only [List.concat_eq_append] at hl ⊢
    have hl1 : l.length + 1 ≤ 100 := by simpa using hl
    have hg1 : ((l ++ [v]).map valV)[l.length]? = some (valV v) := by simp
    simp only [valV] at hg1
    have b1 : ¬ (l.length : Int) < 0 := by omega
    have b2 : (l.length : Int) < ((l.length + 1 : Nat) : Int) := by omega
    have b0 : (0 : Int) ≤ l.length := by omega
    have b3 : ((l.length + 1 : Nat) : Int) - 1 = l.length := by omega
    have b4 : (-9223372036854775808 : Int) ≤ l.length := by omega
    have b5 : (l.length : Int) ≤ 9223372036854775807 := by omega
    have fin : ∀ cap z u, Up 1 (fun res h' => res = .ret (.agg (valV v)) ∧ h' = [frB fn d ⟨pc, l, sl⟩]) (.ret (.agg (valV v))) [⟨[[.s (.int .i64 fn), .s (.int .i64 pc), .s (.int .i64 d), .sl 2 0 l.length cap, .l 3 (sl.map valV)]], 5, 1, true⟩, z, ⟨(l ++ [v]).map valV, 3, cap, true⟩, u] := fun cap z u => by
      have eF := fold_pop (els := (l ++ [v]).map valV) (els' := l.map valV) (x0 := .s (.int .i64 fn)) (x1 := .s (.int .i64 pc)) (x2 := .s (.int .i64 d)) (y := .l 3 (sl.map valV)) (len := l.length) (cap := cap) (by simp) (by simp) (nrs_map valV_nr l) z u
      refine Up.gcF (.agg (valV v)) [(2, l.length)] [(0, 0, 3)] [0] [frB fn d ⟨pc, l, sl⟩] (by simp) rfl ?_ (by simp only [valV]; simp only [rnV, rnQ, List.map_cons, List.map_nil, rowV_rn]; rfl) ⟨rfl, rfl⟩
      rw [eF]
      exact ⟨.inl ⟨fr_nr _ _ _, rfl⟩, trivial⟩
    simp only [valV, frB] at fin
    by_cases k1 : k = 0
    · have e : popR fn d ⟨pc, l ++ [v], sl⟩ k = some (.agg (valV v), [frB fn d ⟨pc, l, sl⟩]) := by simp [popR, popO, k1]
      rw [e]
      simp only [valV]
      simp +contextual (maxSteps := 2000000) (disch := ((try unfold LIM at *); omega)) only [↓bcT, ↓bcF, WA, simprocAttr, wrI, frB, List.length_map, List.length_append, hg1, b1, b2, b0, k1, b3, b4, b5, rowV_cellOk, rowV_nr, rowV_rn]
      exact fun cap hc => ⟨by omega, fin cap _ _⟩
    by_cases k2 : v.k = k
    · subst k2
      have e : popR fn d ⟨pc, l ++ [v], sl⟩ v.k = some (.agg (valV v), [frB fn d ⟨pc, l, sl⟩]) := by simp [popR, popO]
      rw [e]
      simp only [valV]
      simp +contextual (maxSteps := 2000000) (disch := ((try unfold LIM at *); omega)) only [↓bcT, ↓bcF, WA, simprocAttr, wrI, frB, List.length_map, List.length_append, hg1, b1, b2, b0, k1, b3, b4, b5, rowV_cellOk, rowV_nr, rowV_rn]
      exact fun cap hc => ⟨by omega, fin cap _ _⟩
    · have e : popR fn d ⟨pc, l ++ [v], sl⟩ k = none := by simp [popR, popO, k1, k2]
      rw [e]
      simp +contextual (maxSteps := 2000000) (disch := ((try unfold LIM at *); omega)) only [↓bcT, ↓bcF, WA, simprocAttr, wrI, frB, List.length_map, List.length_append, hg1, b1, b2, b0, k1, k2, b3, b4, b5, rowV_cellOk, rowV_nr, rowV_rn]
      intro cap hc
      exact CallThen.wrong fun t => panQ ⟨rfl, _, rfl⟩
def pushR (fn : Int) (d : Nat) (fr : Fr) (v : Val) : Option (V × H) := (pushM fr.stack v).map fun st => (.tup [], [frB fn d ⟨fr.pc, st, fr.slots⟩])
theorem fold_push {els : List (List V)} {x0 x1 x2 y : V} {len cap : Nat} (hl : els.length = len) (hn : nrs els = true) (z u w : Blk) :
    folds [⟨[[x0, x1, x2, .sl 4 0 len cap, y]], 5, 1, true⟩, z, u, w, ⟨els, 3, cap, true⟩] [(0, 0, 3)] = [⟨[[x0, x1, x2, .l 3 els, y]], 5, 1, true⟩, z, u, w, Blk.dead] := by
  simp [folds, foldC, foldK, rdC, rdB, refB, ownOf, elsB, wrH, wrB, wrE, wrL, hl, hn]
theorem did99 (fn : Int) (d : Nat) (fr : Fr) (v : Val) (hl : fr.stack.length ≤ 100) : DidP C 99 [.ptr 0 0 0, .agg (valV v)] [frB fn d fr] (pushR fn d fr v) (endV 3 0) [] := by
  show CallsV C 99 _ _ _
  refine calls_of_run Tryz.func99 rfl (by kernel_rfl) (by kernel_rfl) (by simp) 1000 ?_
  obtain ⟨pc, st, sl⟩ := fr
  simp only at hl
  simp only [valV]
  by_cases c1 : (100 : Int) ≤ st.length
  · have e : pushR fn d ⟨pc, st, sl⟩ v = none := by
      have : 100 ≤ st.length := by omega
      simp [pushR, pushM, this]
    rw [e]
    simp +contextual (maxSteps := 2000000) (disch := ((try unfold LIM at *); omega)) only [↓bcT, ↓bcF, WA, simprocAttr, wrI, frB, List.length_map, c1, rowV_cellOk, rowV_nr, rowV_rn]
    intro cap hc
    exact CallThen.wrong fun t => panQ ⟨rfl, _, rfl⟩
  · have e : pushR fn d ⟨pc, st, sl⟩ v = some (.tup [], [frB fn d ⟨pc, st ++ [v], sl⟩]) := by
      have : ¬ 100 ≤ st.length := by omega
      simp [pushR, pushM, this]
    rw [e]
    simp +contextual (maxSteps := 2000000) (disch := ((try unfold LIM at *); omega)) only [↓bcT, ↓bcF, WA, simprocAttr, wrI, frB, List.length_map, c1, rowV_cellOk, rowV_nr, rowV_rn]
    intro cap hc
    refine DrawThen.of 1000 [0, 2] (.old 0 (.old 1 (.old 2 (.old 3 (.old 5 (.or 4 (.go 6 (.go 7 (.old 8 (.old 9 (.go 10 .done))))) (.go 6 (.go 4 (.go 7 (.old 8 (.old 9 (.go 10 .done)))))))))))) (panFree_body _ _) (by kernel_rfl) (by kernel_rfl) (by kernel_rfl) ?_
    simp +contextual (maxSteps := 2000000) (disch := ((try unfold LIM at *); omega)) only [↓bcT, ↓bcF, WA, simprocAttr, wrI, List.length_map, c1, rowV_cellOk, rowV_nr, rowV_rn]
    repeat' apply And.intro
    all_goals
      first
      | omega
      | (unfold LIM; omega)
      | (intro cap' h1 _
         refine Up.gcF (.tup []) [] [(0, 0, 3)] [0] [frB fn d ⟨pc, st ++ [v], sl⟩] (by simp) rfl ?_ rfl ⟨rfl, rfl⟩
         have hn : nrs (st.map valV ++ [valV v]) = true := by
           have := nrs_map valV_nr (st ++ [v]); simpa using this
         simp only [shrinks_nil, valV] at hn ⊢
         rw [fold_push (by simp) hn]
         exact ⟨.inl ⟨fr_nr _ _ _, by simp [frB, valV]⟩, trivial⟩)
end Go.Proofs.YtlhkfjannhhcbaaGreatDoor
/- part M3 -/
set_option linter.unusedVariables false
set_option linter.unusedSimpArgs false
set_option maxRecDepth 100000
namespace Go.Proofs.YtlhkfjannhhcbaaGreatDoor
open Go Go.W Go.RowKit
theorem walk100 (n : Int) : PureV C 100 [.s (.int .i64 n)] (.agg (valV (intE n))) := by
  refine pure_of_run Tryz.func100 rfl (by kernel_rfl) (by kernel_rfl) (by simp) (fun _ => rfl) (fun _ => rfl) 6 1000 ?_
  simp +contextual (maxSteps := 2000000) (disch := ((try unfold LIM at *); omega)) only [↓bcT, ↓bcF, WA, simprocAttr, wrI, valV, intE, rowV]
theorem walk101 (b : Bool) : PureV C 101 [.s (.bool b)] (.agg (valV (boolE b))) := by
  refine pure_of_run Tryz.func101 rfl (by kernel_rfl) (by kernel_rfl) (by simp) (fun _ => rfl) (fun _ => rfl) 6 1000 ?_
  cases b
  · simp +contextual (maxSteps := 2000000) (disch := ((try unfold LIM at *); omega)) only [↓bcT, ↓bcF, WA, simprocAttr, wrI, valV, boolE, rowV]
  · simp +contextual (maxSteps := 2000000) (disch := ((try unfold LIM at *); omega)) only [↓bcT, ↓bcF, WA, simprocAttr, wrI, valV, boolE, rowV]
theorem walk107 (l : List Int) : PureV C 107 [.f 1 (l.map iV)] (.agg (valV (rowE l))) := by
  refine pure_of_run Tryz.func107 rfl (by kernel_rfl) (by kernel_rfl) (by simp) (fun _ => rfl) (fun _ => rfl) 6 1000 ?_
  simp +contextual (maxSteps := 2000000) (disch := ((try unfold LIM at *); omega)) only [↓bcT, ↓bcF, WA, simprocAttr, wrI, valV, rowE, rowV]
def frS (fn : Int) (d : Nat) (fr : Fr) (b cap : Nat) : Blk := ⟨[[.s (.int .i64 fn), .s (.int .i64 fr.pc), .s (.int .i64 d), .l 3 (fr.stack.map valV), .sl b 0 fr.slots.length cap]], 5, 1, true⟩
theorem calls102 (fn : Int) (d : Nat) (fr : Fr) (a : Nat) (ha : a < fr.slots.length) (hl : fr.slots.length ≤ 1000) : CallsV C 102 [.ptr 0 0 0, .s (.int .i64 a)] [frB fn d fr] fun res h' => ∃ cap, fr.slots.length ≤ cap ∧ res = .ret (.ptr 1 a 0) ∧ h' = [frS fn d fr 1 cap, ⟨fr.slots.map valV, 3, cap, true⟩] := by
  refine calls_of_run Tryz.func102 rfl (by kernel_rfl) (by kernel_rfl) (by simp) 1000 ?_
  obtain ⟨pc, st, sl⟩ := fr
  simp only at ha hl
  have c1 : rangeB a 0 ((sl.length : Int) - 1) = true := by simp [rangeB]; omega
  have w70 := walk70 a sl.length (by omega)
  rw [c1] at w70
  have p0 : (0 : Int) ≤ a := by omega
  have p1 : (a : Int) < sl.length := by omega
  simp +contextual (maxSteps := 2000000) (disch := ((try unfold LIM at *); omega)) only [↓bcT, ↓bcF, WA, simprocAttr, wrI, frB, List.length_map]
  intro cap hc
  refine CallThen.pure w70 1000 ?_
  simp +contextual (maxSteps := 2000000) (disch := ((try unfold LIM at *); omega)) only [↓bcT, ↓bcF, WA, simprocAttr, wrI, frB, List.length_map, p0, p1]
  refine Up.refl ⟨cap, hc, rfl, rfl⟩
theorem did102 (fn : Int) (d : Nat) (fr : Fr) (a : Nat) (ha : fr.slots.length ≤ a) (hl : fr.slots.length ≤ 1000) : DidP C 102 [.ptr 0 0 0, .s (.int .i64 a)] [frB fn d fr] none (endV 3 0) [] := by
  show CallsV C 102 _ _ _
  refine calls_of_run Tryz.func102 rfl (by kernel_rfl) (by kernel_rfl) (by simp) 1000 ?_
  obtain ⟨pc, st, sl⟩ := fr
  simp only at ha hl
  have c1 : rangeB a 0 ((sl.length : Int) - 1) = false := by simp [rangeB]; omega
  have w70 := walk70 a sl.length (by omega)
  rw [c1] at w70
  simp +contextual (maxSteps := 2000000) (disch := ((try unfold LIM at *); omega)) only [↓bcT, ↓bcF, WA, simprocAttr, wrI, frB, List.length_map]
  intro cap hc
  refine CallThen.pure w70 1000 ?_
  simp +contextual (maxSteps := 2000000) (disch := ((try unfold LIM at *); omega)) only [↓bcT, ↓bcF, WA, simprocAttr, wrI, frB, List.length_map]
  exact CallThen.wrong fun t => panQ ⟨rfl, _, rfl⟩
def popsR (fn : Int) (d : Nat) (fr : Fr) (ks : List Int) (res : Res) (h' : H) : Prop := match popsM fr.stack ks with
  | some q => res = .ret (.sl 1 0 ks.length ks.length) ∧ h' = [frB fn d ⟨fr.pc, q.2, fr.slots⟩, ⟨q.1.map valV, 3, ks.length, true⟩]
  | none => res = .pan (endV 3 0) ∧ ∃ t, h' = [] ++ t
theorem calls105 (fn : Int) (d : Nat) (fr : Fr) (ks : List Int) (hl : fr.stack.length ≤ 100) (hk : ks.length ≤ 100) (hz : ∀ k ∈ ks, k ≠ 0) : CallsV C 105 [.ptr 0 0 0, .f 1 (ks.map iV)] [frB fn d fr] (popsR fn d fr ks) := by
  refine calls_of_run Tryz.func105 rfl (by kernel_rfl) (by kernel_rfl) (by simp) 1000 ?_
  have b1 : (0 : Int) ≤ ks.length := by omega
  have b2 : (40 : Int) * ks.length ≤ 140737488355328 := by omega
  have b3 : (ks.length : Int) ≤ 4611686018427387904 := by omega
  simp +contextual (maxSteps := 2000000) (disch := ((try unfold LIM at *); omega)) only [↓bcT, ↓bcF, WA, simprocAttr, wrI, List.length_map, b1, b2, b3, Int.le_refl]
  intro _
  refine CallThen.pure (pure127 _) 1000 ?_
  simp +contextual (maxSteps := 2000000) (disch := ((try unfold LIM at *); omega)) only [↓bcT, ↓bcF, WA, simprocAttr, wrI]
  have hz0 : (List.replicate ks.length zeroE).map valV = List.replicate ks.length [V.s (.int .i64 0), .s (.int .i64 0), .z] := by rw [List.map_replicate]; rfl
  refine RangeThen.back (gf := 154) (n := 1) (ag := false) (els := ks.map iV) (pi := 13) (pv := 14) 1000 1000
    (fun k h' => ∃ st vs, fr.stack = st ++ vs ∧ vs.map (·.k) = ks.drop k ∧ h' = [frB fn d ⟨fr.pc, st, fr.slots⟩, ⟨[[.ptr 0 0 0]], 1, 1, true⟩, ⟨(List.replicate k zeroE ++ vs).map valV, 3, ks.length, true⟩, ⟨[[.sl 2 0 ks.length ks.length]], 1, 1, true⟩])
    back154 (by kernel_rfl) (by simp +contextual (maxSteps := 2000000) (disch := ((try unfold LIM at *); omega)) only [↓bcT, ↓bcF, WA, simprocAttr, wrI]) (fz_map iV_fz ks) rfl ⟨fr.stack, [], by simp, by simp, by rw [List.append_nil, List.length_map, hz0]⟩ ?_ ?_
  · rintro rd k el h' hel ⟨st, vs, q1, q2, rfl⟩
    rw [List.getElem?_map, Option.map_eq_some_iff] at hel
    obtain ⟨x, hx, rfl⟩ := hel
    have hst : st.length ≤ 100 := by have := congrArg List.length q1; simp at this; omega
    have hvl : vs.length = ks.length - (k + 1) := by have := congrArg List.length q2; simpa using this
    have kl : k < ks.length := (List.getElem?_eq_some_iff.1 hx).1
    have p0 : (0 : Int) ≤ k := by omega
    have p1 : (k : Int) < ks.length := by omega
    have D := did72 fn d ⟨fr.pc, st, fr.slots⟩ x hst
    have hx0 : x ≠ 0 := hz x (List.mem_of_getElem? hx)
    by_cases hc : ∃ l v, st = l ++ [v] ∧ v.k = x
    · obtain ⟨l, v, rfl, rfl⟩ := hc
      have e : popR fn d ⟨fr.pc, l ++ [v], fr.slots⟩ v.k = some (.agg (valV v), [frB fn d ⟨fr.pc, l, fr.slots⟩]) := by simp [popR, popO]
      rw [e] at D
      have hset : ((List.replicate (k + 1) zeroE ++ vs).map valV).set k (valV v) = (List.replicate k zeroE ++ v :: vs).map valV := by
        rw [← List.map_set, List.replicate_succ', List.append_assoc, List.set_append_right _ _ (by simp)]; simp
      have hlen : ((List.replicate (k + 1) zeroE ++ vs).map valV).length = ks.length := by simp; omega
      have hg : ((List.replicate (k + 1) zeroE ++ vs).map valV)[k]? = some (valV zeroE) := by
        rw [List.getElem?_map, List.getElem?_append_left (by simp), List.getElem?_replicate_of_lt (by omega)]; rfl
      simp only [valV] at hset hg
      generalize (List.replicate (k + 1) zeroE ++ vs).map valV = L at *
      simp +contextual (maxSteps := 2000000) (disch := ((try unfold LIM at *); omega)) only [↓bcT, ↓bcF, WA, simprocAttr, wrI, rowW, iV, WB9, List.headD_cons]
      refine DrawThen.ofR 1000 [0, 2] (.old 0 (.old 1 (.old 2 (.old 3 (.go 4 (.old 5 (.go 6 .done))))))) (fun _ _ _ _ q => q) (by kernel_rfl) (by kernel_rfl) (by kernel_rfl) (by kernel_rfl) ?_
      simp +contextual (maxSteps := 2000000) (disch := ((try unfold LIM at *); omega)) only [↓bcT, ↓bcF, WA, simprocAttr, wrI, p0, p1, hlen, hg, hset, WB9, rowV_cellOk, rowV_nr, rowV_rn]
      refine DCall.did (D.inRd rd) [] [] [0] _ rfl (by simp) ⟨.inl ⟨fr_nr _ _ _, rfl⟩, trivial⟩ rfl (fun _ => rfl) 1000 (.old 5 (.go 6 .done)) (by kernel_rfl) (fun q hq => ?_) (fun hq t ht => by cases hq)
      cases hq
      simp +contextual (maxSteps := 2000000) (disch := ((try unfold LIM at *); omega)) only [↓bcT, ↓bcF, WA, simprocAttr, wrI, WB9, rnB_fr, valV, rowV_rn]
      try simp +contextual (maxSteps := 2000000) (disch := ((try unfold LIM at *); omega)) only [↓bcT, ↓bcF, WA, simprocAttr, wrI, p0, p1, hlen, hg, hset, WB9, rowV_cellOk, rowV_nr, rowV_rn]
      repeat' apply And.intro
      all_goals
        exact Goes.refl ⟨l, v :: vs, by rw [q1, List.append_assoc]; rfl, by rw [List.map_cons, q2, drop_cons hx], rfl⟩
    · have hno : popsM fr.stack ks = none := by rw [q1]; exact popsM_no hx q2 fun l v e1 e2 => hc ⟨l, v, e1, e2⟩
      have e : popR fn d ⟨fr.pc, st, fr.slots⟩ x = none := by
        rcases List.eq_nil_or_concat st with rfl | ⟨l, v, rfl⟩
        · rfl
        · simp only [List.concat_eq_append] at hc ⊢
          have : v.k ≠ x := fun q => hc ⟨l, v, rfl, q⟩
          simp [popR, popO, hx0, this]
      rw [e] at D
      generalize (List.replicate (k + 1) zeroE ++ vs).map valV = L at *
      simp +contextual (maxSteps := 2000000) (disch := ((try unfold LIM at *); omega)) only [↓bcT, ↓bcF, WA, simprocAttr, wrI, rowW, iV, WB9, List.headD_cons]
      refine DrawThen.ofR 1000 [0, 2] (.old 0 (.old 1 (.old 2 (.old 3 (.go 4 (.old 5 (.go 6 .done))))))) (fun _ _ _ _ q => q) (by kernel_rfl) (by kernel_rfl) (by kernel_rfl) (by kernel_rfl) ?_
      simp +contextual (maxSteps := 2000000) (disch := ((try unfold LIM at *); omega)) only [↓bcT, ↓bcF, WA, simprocAttr, wrI, p0, p1, WB9, rowV_cellOk, rowV_nr, rowV_rn]
      refine DCall.did (D.inRd rd) [] [] [0] _ rfl (by simp) ⟨.inl ⟨fr_nr _ _ _, rfl⟩, trivial⟩ rfl (fun _ => rfl) 1000 (.old 5 (.go 6 .done)) (by kernel_rfl) (fun q hq => by cases hq) (fun hq t ht => ?_)
      simp +contextual (maxSteps := 2000000) (disch := ((try unfold LIM at *); omega)) only [↓bcT, ↓bcF, WA, simprocAttr, wrI, WB9]
      try simp +contextual (maxSteps := 2000000) (disch := ((try unfold LIM at *); omega)) only [↓bcT, ↓bcF, WA, simprocAttr, wrI, p0, p1, WB9, rowV_cellOk, rowV_nr, rowV_rn]
      repeat' apply And.intro
      all_goals
        exact Up.refl (r := .pan _) (by unfold popsR; rw [hno]; exact ⟨rfl, _, rfl⟩)
  · rintro h' ⟨st, vs, q1, q2, rfl⟩
    have hp : popsM fr.stack ks = some (vs, st) := by rw [q1]; exact popsM_at q2
    have hvl : vs.length = ks.length := by have := congrArg List.length q2; simpa using this
    simp +contextual (maxSteps := 2000000) (disch := ((try unfold LIM at *); omega)) only [↓bcT, ↓bcF, WA, simprocAttr, wrI, List.replicate_zero, List.nil_append]
    refine Up.gcF (.sl 1 0 ks.length ks.length) [] [] [0, 2] [frB fn d ⟨fr.pc, st, fr.slots⟩, ⟨vs.map valV, 3, ks.length, true⟩] (by simp) rfl ⟨.inl ⟨fr_nr _ _ _, rfl⟩, .inl ⟨nrs_map valV_nr vs, rfl⟩, trivial⟩ rfl ?_
    unfold popsR; rw [hp]; exact ⟨rfl, rfl⟩
end Go.Proofs.YtlhkfjannhhcbaaGreatDoor
/- part M4 -/
set_option linter.unusedVariables false
set_option linter.unusedSimpArgs false
set_option maxRecDepth 100000
namespace Go.Proofs.YtlhkfjannhhcbaaGreatDoor
open Go Go.W Go.RowKit
theorem new152 (l : List Int) (hl : l.length ≤ 1048576) : NewV C 152 [.f 1 (l.map iV)] 1 (l.map iV) := by
  refine calls_of_run Tryz.func152 rfl (by kernel_rfl) (by kernel_rfl) (by simp) 1000 ?_
  have q1 : l.length * 8 ≤ 140737488355328 ∧ l.length ≤ LIM := by unfold LIM; omega
  simp +contextual (maxSteps := 2000000) (disch := ((try unfold LIM at *); omega)) only [↓bcT, ↓bcF, WA, simprocAttr, wrI, leafs_map iV_ok, List.length_map, q1, takeTo, List.take_length, take_map_len]
  intro r hr
  cases r with
  | true =>
    simp +contextual (maxSteps := 2000000) (disch := ((try unfold LIM at *); omega)) only [↓bcT, ↓bcF, WA, simprocAttr, wrI]
    have e : l = [] := by
      cases l with
      | nil => rfl
      | cons a b => exact absurd (hr (by simp)) (by simp)
    subst e
    exact Up.nil 1 ⟨0, by simp, rfl, rfl⟩
  | false =>
    simp +contextual (maxSteps := 2000000) (disch := ((try unfold LIM at *); omega)) only [↓bcT, ↓bcF, WA, simprocAttr, wrI, leafs_map iV_ok, List.length_map, q1, takeTo, List.take_length, take_map_len]
    intro cap' hc _
    exact Up.fresh (b := 1) rfl (nrs_map iV_nr _) ⟨cap', hc, rfl, rfl⟩
theorem own181 (k : Nat) (hk : k ≤ 2000) (h0 : 0 < k) : CallsV C 181 [.sl 0 0 0 0, .s (.int .i64 k)] [⟨[], 1, 0, true⟩] fun res h' => ∃ cap, res = .ret (.sl 1 0 0 cap) ∧ h' = [⟨[], 1, 0, true⟩, ⟨[], 1, cap, true⟩] := by
  refine calls_of_run Tryz.func181 rfl (by kernel_rfl) (by kernel_rfl) (by simp) 1000 ?_
  have c1 : ¬ (k : Int) < 0 := by omega
  have c2 : (0 : Int) < k := by omega
  have b1 : (0 : Int) ≤ k := by omega
  have b2 : (k : Int) ≤ 4611686018427387904 ∧ 0 < k ∧ k * 8 ≤ 140737488355328 ∧ k ≤ LIM := by unfold LIM; omega
  simp +contextual (maxSteps := 2000000) (disch := ((try unfold LIM at *); omega)) only [↓bcT, ↓bcF, WA, simprocAttr, wrI, c1, c2, b1, b2, rep_leafs, List.length_replicate, Int.sub_zero, Nat.zero_add, takeTo]
  intro cap hcap
  exact ⟨by omega, Up.gcF (.sl 1 0 0 cap) [(1, 0)] [] [0, 1] [⟨[], 1, 0, true⟩, ⟨[], 1, cap, true⟩] (by simp) rfl ⟨.inl ⟨rfl, rfl⟩, .inl ⟨rfl, rfl⟩, trivial⟩ rfl ⟨cap, rfl, rfl⟩⟩
theorem new181 (k : Nat) (hk : k ≤ 2000) : NewV C 181 [.z, .s (.int .i64 k)] 1 [] := by
  by_cases h0 : 0 < k
  · exact ((own181 k hk h0).nilArg (h := []) (args := [.z, .s (.int .i64 k)]) ⟨.inr ⟨rfl, rfl⟩, .inl rfl, trivial⟩).up fun r h' ⟨cap, e1, e2⟩ => by
      subst e1; subst e2
      exact Up.gc (.sl 0 0 0 cap) [1] [⟨[], 1, cap, true⟩] (by simp) ⟨.inl ⟨rfl, rfl⟩, trivial⟩ rfl ⟨cap, Nat.zero_le _, rfl, rfl⟩
  · have c3 : k = 0 := by omega
    subst c3
    refine calls_of_run Tryz.func181 rfl (by kernel_rfl) (by kernel_rfl) (by simp) 1000 ?_
    simp +contextual (maxSteps := 2000000) (disch := ((try unfold LIM at *); omega)) only [↓bcT, ↓bcF, WA, simprocAttr, wrI]
    exact Up.nil 1 ⟨0, by simp, rfl, rfl⟩
theorem prt0 (p q : List Int) : prt p q 0 = [] := rfl
theorem prt1 (p q : List Int) : prt p q 1 = p := rfl
theorem prt2 (p q : List Int) : prt p q 2 = p ++ q := rfl
theorem new151 (p q : List Int) (hp : p.length ≤ 1000) (hq : q.length ≤ 1000) : NewV C 151 [.f 1 [[.f 1 (p.map iV)], [.f 1 (q.map iV)]]] 1 ((p ++ q).map iV) := by
  refine calls_of_run Tryz.func151 rfl (by kernel_rfl) (by kernel_rfl) (by simp) 1000 ?_
  simp +contextual (maxSteps := 2000000) (disch := ((try unfold LIM at *); omega)) only [↓bcT, ↓bcF, WA, simprocAttr, wrI]
  intro _
  refine LoopThen.own (ι := Nat) (fun i => i ≤ 2) (fun i => [(0, .f 1 [[.f 1 (p.map iV)], [.f 1 (q.map iV)]]), (9, .f 1 [[.f 1 (p.map iV)], [.f 1 (q.map iV)]]), (10, .s (.int .i64 2)), (11, .s (.int .i64 i)), (3, .s (.int .i64 (szs p q i)))]) (fun _ => []) (fun i => 2 - i) 1000 1000
    ⟨0, by omega, [], by simp, trivial, by simp +contextual (maxSteps := 2000000) (disch := ((try unfold LIM at *); omega)) only [↓bcT, ↓bcF, WA, simprocAttr, wrI, szs]⟩ ?_
  have a1 : ¬ ((p.length : Int)) < 0 := by omega
  have a2 : ¬ ((p.length : Int) + q.length) < 0 := by omega
  have a3 : (-9223372036854775808 : Int) ≤ (p.length : Int) + q.length := by omega
  have a4 : (p.length : Int) + q.length ≤ 9223372036854775807 := by omega
  intro i hi
  match i, hi with
  | 0, _ =>
    simp +contextual (maxSteps := 2000000) (disch := ((try unfold LIM at *); omega)) only [↓bcT, ↓bcF, WA, simprocAttr, wrI, szs, List.length_map, a1, Int.zero_add]
    intros
    exact ⟨1, ⟨by omega, by omega⟩, [], by simp, trivial, by simp +contextual (maxSteps := 2000000) (disch := ((try unfold LIM at *); omega)) only [↓bcT, ↓bcF, WA, simprocAttr, wrI, szs]⟩
  | 1, _ =>
    simp +contextual (maxSteps := 2000000) (disch := ((try unfold LIM at *); omega)) only [↓bcT, ↓bcF, WA, simprocAttr, wrI, szs, List.length_map, a2, a3, a4]
    intros
    exact ⟨2, ⟨by omega, by omega⟩, [], by simp, trivial, by simp +contextual (maxSteps := 2000000) (disch := ((try unfold LIM at *); omega)) only [↓bcT, ↓bcF, WA, simprocAttr, wrI, szs, Int.natCast_add]⟩
  | 2, _ =>
    simp +contextual (maxSteps := 2000000) (disch := ((try unfold LIM at *); omega)) only [↓bcT, ↓bcF, WA, simprocAttr, wrI, szs]
    refine CallThen.new (new181 (p.length + q.length) (by omega)) rfl (fun _ => rfl) 1000 fun cp hcp => ?_
    simp +contextual (maxSteps := 2000000) (disch := ((try unfold LIM at *); omega)) only [↓bcT, ↓bcF, WA, simprocAttr, wrI]
    intro _
    refine LoopThen.own (ι := Nat × Nat) (fun i => i.1 ≤ 2 ∧ (prt p q i.1).length ≤ i.2) (fun i => [(25, .f 1 [[.f 1 (p.map iV)], [.f 1 (q.map iV)]]), (26, .s (.int .i64 2)), (27, .s (.int .i64 i.1)), (6, .sl 0 0 (prt p q i.1).length i.2)]) (fun i => [⟨(prt p q i.1).map iV, 1, i.2, true⟩]) (fun i => 2 - i.1) 1000 1000
      ⟨(0, cp), ⟨by simp, by simp [prt]⟩, [0], by simp, ⟨.inl ⟨nrs_map iV_nr _, rfl⟩, trivial⟩, by simp +contextual (maxSteps := 2000000) (disch := ((try unfold LIM at *); omega)) only [↓bcT, ↓bcF, WA, simprocAttr, wrI, prt0, nm_at]⟩ ?_
    rintro ⟨i, cp2⟩ ⟨hi, hcp2⟩
    match i, hi, hcp2 with
    | 0, _, _ =>
      have b2 : p.length * 8 ≤ 140737488355328 ∧ p.length ≤ LIM := by unfold LIM; omega
      simp +contextual (maxSteps := 2000000) (disch := ((try unfold LIM at *); omega)) only [↓bcT, ↓bcF, WA, simprocAttr, wrI, prt0, List.length_map, leafs_map iV_ok, takeTo, List.take_length, take_map_len, b2, Nat.zero_add]
      intro cap' h1 _
      exact ⟨(1, cap'), ⟨⟨by simp, h1⟩, by simp⟩, [1], by simp, ⟨.inl ⟨nrs_map iV_nr _, rfl⟩, trivial⟩, by simp +contextual (maxSteps := 2000000) (disch := ((try unfold LIM at *); omega)) only [↓bcT, ↓bcF, WA, simprocAttr, wrI, prt1, nm_at]⟩
    | 1, _, _ =>
      have b2 : (p.length + q.length) * 8 ≤ 140737488355328 ∧ p.length + q.length ≤ LIM := by unfold LIM; omega
      simp +contextual (maxSteps := 2000000) (disch := ((try unfold LIM at *); omega)) only [↓bcT, ↓bcF, WA, simprocAttr, wrI, prt1, List.length_map, leafs_map iV_ok, takeTo, List.take_length, take_map_len, b2, ite_true, ← List.map_append]
      intro cap' h1 _
      exact ⟨(2, cap'), ⟨⟨by simp, by simpa [prt2] using h1⟩, by simp⟩, [1], by simp, ⟨.inl ⟨nrs_map iV_nr _, rfl⟩, trivial⟩, by simp +contextual (maxSteps := 2000000) (disch := ((try unfold LIM at *); omega)) only [↓bcT, ↓bcF, WA, simprocAttr, wrI, prt2, nm_at, List.length_append]⟩
    | 2, _, hcp2 =>
      simp +contextual (maxSteps := 2000000) (disch := ((try unfold LIM at *); omega)) only [↓bcT, ↓bcF, WA, simprocAttr, wrI, prt2]
      exact Up.gcF (.sl 0 0 (p ++ q).length cp2) [] [] [0] [⟨(p ++ q).map iV, 1, cp2, true⟩] (by simp) rfl ⟨.inl ⟨nrs_map iV_nr _, rfl⟩, trivial⟩ rfl ⟨cp2, by simpa [prt2] using hcp2, by rw [List.length_map], rfl⟩
end Go.Proofs.YtlhkfjannhhcbaaGreatDoor
/- part M5 -/
set_option linter.unusedVariables false
set_option linter.unusedSimpArgs false
set_option maxRecDepth 100000
namespace Go.Proofs.YtlhkfjannhhcbaaGreatDoor
open Go Go.W Go.RowKit
theorem w153_0 (a b : Int) : PureV C 153 [.s (.string (primW 0)), .s (.int .i64 a), .s (.int .i64 b)] (.tup [.agg (valV (intE (wr (a + b)))), .s (.int .i64 0)]) := by
  refine pure_of_run Tryz.func153 rfl (by kernel_rfl) (by kernel_rfl) (by simp) (fun _ => rfl) (fun _ => rfl) 6 1000 ?_
  simp +contextual (maxSteps := 2000000) (disch := ((try unfold LIM at *); omega)) only [↓bcT, ↓bcF, WA, simprocAttr, wrI, primW, ne_0_1, ne_0_2, ne_0_3, ne_0_4, ne_0_5, ne_0_6, ne_0_7, ne_0_8, ne_0_9, ne_0_10, ne_0_11, ne_0_12, ne_0_13, ne_0_14, ne_0_15]
  refine CallThen.pure (walk100 _) 1000 ?_
  simp +contextual (maxSteps := 2000000) (disch := ((try unfold LIM at *); omega)) only [↓bcT, ↓bcF, WA, simprocAttr, wrI, valV, intE, boolE, rowV, rowV_cellOk, rowV_nr, rowV_rn]
theorem w153_1 (a b : Int) : PureV C 153 [.s (.string (primW 1)), .s (.int .i64 a), .s (.int .i64 b)] (.tup [.agg (valV (intE (wr (a - b)))), .s (.int .i64 0)]) := by
  refine pure_of_run Tryz.func153 rfl (by kernel_rfl) (by kernel_rfl) (by simp) (fun _ => rfl) (fun _ => rfl) 6 1000 ?_
  simp +contextual (maxSteps := 2000000) (disch := ((try unfold LIM at *); omega)) only [↓bcT, ↓bcF, WA, simprocAttr, wrI, primW, ne_1_0, ne_1_2, ne_1_3, ne_1_4, ne_1_5, ne_1_6, ne_1_7, ne_1_8, ne_1_9, ne_1_10, ne_1_11, ne_1_12, ne_1_13, ne_1_14, ne_1_15]
  refine CallThen.pure (walk100 _) 1000 ?_
  simp +contextual (maxSteps := 2000000) (disch := ((try unfold LIM at *); omega)) only [↓bcT, ↓bcF, WA, simprocAttr, wrI, valV, intE, boolE, rowV, rowV_cellOk, rowV_nr, rowV_rn]
theorem w153_2 (a b : Int) : PureV C 153 [.s (.string (primW 2)), .s (.int .i64 a), .s (.int .i64 b)] (.tup [.agg (valV (intE (wr (a * b)))), .s (.int .i64 0)]) := by
  refine pure_of_run Tryz.func153 rfl (by kernel_rfl) (by kernel_rfl) (by simp) (fun _ => rfl) (fun _ => rfl) 6 1000 ?_
  simp +contextual (maxSteps := 2000000) (disch := ((try unfold LIM at *); omega)) only [↓bcT, ↓bcF, WA, simprocAttr, wrI, primW, ne_2_0, ne_2_1, ne_2_3, ne_2_4, ne_2_5, ne_2_6, ne_2_7, ne_2_8, ne_2_9, ne_2_10, ne_2_11, ne_2_12, ne_2_13, ne_2_14, ne_2_15]
  refine CallThen.pure (walk100 _) 1000 ?_
  simp +contextual (maxSteps := 2000000) (disch := ((try unfold LIM at *); omega)) only [↓bcT, ↓bcF, WA, simprocAttr, wrI, valV, intE, boolE, rowV, rowV_cellOk, rowV_nr, rowV_rn]
theorem w153_5 (a b : Int) : PureV C 153 [.s (.string (primW 5)), .s (.int .i64 a), .s (.int .i64 b)] (.tup [.agg (valV (boolE (decide (a < b)))), .s (.int .i64 0)]) := by
  refine pure_of_run Tryz.func153 rfl (by kernel_rfl) (by kernel_rfl) (by simp) (fun _ => rfl) (fun _ => rfl) 6 1000 ?_
  simp +contextual (maxSteps := 2000000) (disch := ((try unfold LIM at *); omega)) only [↓bcT, ↓bcF, WA, simprocAttr, wrI, primW, ne_5_0, ne_5_1, ne_5_2, ne_5_3, ne_5_4, ne_5_6, ne_5_7, ne_5_8, ne_5_9, ne_5_10, ne_5_11, ne_5_12, ne_5_13, ne_5_14, ne_5_15]
  refine CallThen.pure (walk101 _) 1000 ?_
  simp +contextual (maxSteps := 2000000) (disch := ((try unfold LIM at *); omega)) only [↓bcT, ↓bcF, WA, simprocAttr, wrI, valV, intE, boolE, rowV, rowV_cellOk, rowV_nr, rowV_rn]
theorem w153_6 (a b : Int) : PureV C 153 [.s (.string (primW 6)), .s (.int .i64 a), .s (.int .i64 b)] (.tup [.agg (valV (boolE (decide (a ≤ b)))), .s (.int .i64 0)]) := by
  refine pure_of_run Tryz.func153 rfl (by kernel_rfl) (by kernel_rfl) (by simp) (fun _ => rfl) (fun _ => rfl) 6 1000 ?_
  simp +contextual (maxSteps := 2000000) (disch := ((try unfold LIM at *); omega)) only [↓bcT, ↓bcF, WA, simprocAttr, wrI, primW, ne_6_0, ne_6_1, ne_6_2, ne_6_3, ne_6_4, ne_6_5, ne_6_7, ne_6_8, ne_6_9, ne_6_10, ne_6_11, ne_6_12, ne_6_13, ne_6_14, ne_6_15]
  refine CallThen.pure (walk101 _) 1000 ?_
  simp +contextual (maxSteps := 2000000) (disch := ((try unfold LIM at *); omega)) only [↓bcT, ↓bcF, WA, simprocAttr, wrI, valV, intE, boolE, rowV, rowV_cellOk, rowV_nr, rowV_rn]
theorem w153_7 (a b : Int) : PureV C 153 [.s (.string (primW 7)), .s (.int .i64 a), .s (.int .i64 b)] (.tup [.agg (valV (boolE (decide (a = b)))), .s (.int .i64 0)]) := by
  refine pure_of_run Tryz.func153 rfl (by kernel_rfl) (by kernel_rfl) (by simp) (fun _ => rfl) (fun _ => rfl) 6 1000 ?_
  simp +contextual (maxSteps := 2000000) (disch := ((try unfold LIM at *); omega)) only [↓bcT, ↓bcF, WA, simprocAttr, wrI, primW, ne_7_0, ne_7_1, ne_7_2, ne_7_3, ne_7_4, ne_7_5, ne_7_6, ne_7_8, ne_7_9, ne_7_10, ne_7_11, ne_7_12, ne_7_13, ne_7_14, ne_7_15]
  refine CallThen.pure (walk101 _) 1000 ?_
  simp +contextual (maxSteps := 2000000) (disch := ((try unfold LIM at *); omega)) only [↓bcT, ↓bcF, WA, simprocAttr, wrI, valV, intE, boolE, rowV, rowV_cellOk, rowV_nr, rowV_rn]
theorem w153_3z (a : Int) : PureV C 153 [.s (.string (primW 3)), .s (.int .i64 a), .s (.int .i64 0)] (.tup [.agg (valV zeroE), .s (.int .i64 1)]) := by
  refine pure_of_run Tryz.func153 rfl (by kernel_rfl) (by kernel_rfl) (by simp) (fun _ => rfl) (fun _ => rfl) 6 1000 ?_
  simp +contextual (maxSteps := 2000000) (disch := ((try unfold LIM at *); omega)) only [↓bcT, ↓bcF, WA, simprocAttr, wrI, primW, ne_3_0, ne_3_1, ne_3_2, ne_3_4, ne_3_5, ne_3_6, ne_3_7, ne_3_8, ne_3_9, ne_3_10, ne_3_11, ne_3_12, ne_3_13, ne_3_14, ne_3_15, valV, zeroE, rowV]
theorem w153_3 (a b : Int) (hb : b ≠ 0) : PureV C 153 [.s (.string (primW 3)), .s (.int .i64 a), .s (.int .i64 b)] (.tup [.agg (valV (intE (wr (a.tdiv b)))), .s (.int .i64 0)]) := by
  refine pure_of_run Tryz.func153 rfl (by kernel_rfl) (by kernel_rfl) (by simp) (fun _ => rfl) (fun _ => rfl) 6 1000 ?_
  simp +contextual (maxSteps := 2000000) (disch := ((try unfold LIM at *); omega)) only [↓bcT, ↓bcF, WA, simprocAttr, wrI, primW, ne_3_0, ne_3_1, ne_3_2, ne_3_4, ne_3_5, ne_3_6, ne_3_7, ne_3_8, ne_3_9, ne_3_10, ne_3_11, ne_3_12, ne_3_13, ne_3_14, ne_3_15, hb]
  refine CallThen.pure (walk100 _) 1000 ?_
  simp +contextual (maxSteps := 2000000) (disch := ((try unfold LIM at *); omega)) only [↓bcT, ↓bcF, WA, simprocAttr, wrI, valV, intE, boolE, rowV, rowV_cellOk, rowV_nr, rowV_rn]
theorem w153_4z (a : Int) : PureV C 153 [.s (.string (primW 4)), .s (.int .i64 a), .s (.int .i64 0)] (.tup [.agg (valV zeroE), .s (.int .i64 1)]) := by
  refine pure_of_run Tryz.func153 rfl (by kernel_rfl) (by kernel_rfl) (by simp) (fun _ => rfl) (fun _ => rfl) 6 1000 ?_
  simp +contextual (maxSteps := 2000000) (disch := ((try unfold LIM at *); omega)) only [↓bcT, ↓bcF, WA, simprocAttr, wrI, primW, ne_4_0, ne_4_1, ne_4_2, ne_4_3, ne_4_5, ne_4_6, ne_4_7, ne_4_8, ne_4_9, ne_4_10, ne_4_11, ne_4_12, ne_4_13, ne_4_14, ne_4_15, valV, zeroE, rowV]
theorem w153_4 (a b : Int) (hb : b ≠ 0) : PureV C 153 [.s (.string (primW 4)), .s (.int .i64 a), .s (.int .i64 b)] (.tup [.agg (valV (intE (a.tmod b))), .s (.int .i64 0)]) := by
  refine pure_of_run Tryz.func153 rfl (by kernel_rfl) (by kernel_rfl) (by simp) (fun _ => rfl) (fun _ => rfl) 6 1000 ?_
  simp +contextual (maxSteps := 2000000) (disch := ((try unfold LIM at *); omega)) only [↓bcT, ↓bcF, WA, simprocAttr, wrI, primW, ne_4_0, ne_4_1, ne_4_2, ne_4_3, ne_4_5, ne_4_6, ne_4_7, ne_4_8, ne_4_9, ne_4_10, ne_4_11, ne_4_12, ne_4_13, ne_4_14, ne_4_15, hb]
  refine CallThen.pure (walk100 _) 1000 ?_
  simp +contextual (maxSteps := 2000000) (disch := ((try unfold LIM at *); omega)) only [↓bcT, ↓bcF, WA, simprocAttr, wrI, valV, intE, boolE, rowV, rowV_cellOk, rowV_nr, rowV_rn]
end Go.Proofs.YtlhkfjannhhcbaaGreatDoor
/- part M6 -/
set_option linter.unusedVariables false
set_option linter.unusedSimpArgs false
set_option maxRecDepth 100000
namespace Go.Proofs.YtlhkfjannhhcbaaGreatDoor
open Go Go.W Go.RowKit
theorem rowV1 (r : List Int) : rowV 1 r = .z := rfl
theorem rowV2 (r : List Int) : rowV 2 r = .z := rfl
theorem rowV3 (r : List Int) : rowV 3 r = .f 1 (r.map iV) := rfl
theorem rowV0 (r : List Int) : rowV 0 r = .z := rfl
theorem w126_0 (a b : Int) : PureV C 126 [.s (.string (primW 0)), .f 3 [valV (intE a), valV (intE b)]] (.tup [.agg (valV (intE (wr (a + b)))), .s (.int .i64 0)]) := by
  refine pure_of_run Tryz.func126 rfl (by kernel_rfl) (by kernel_rfl) (by simp) (fun _ => rfl) (fun _ => rfl) 6 1000 ?_
  have w := w153_0 a b
  simp only [primW] at w
  simp +contextual (maxSteps := 2000000) (disch := ((try unfold LIM at *); omega)) only [↓bcT, ↓bcF, WA, simprocAttr, wrI, primW, ne_0_1, ne_0_2, ne_0_3, ne_0_4, ne_0_5, ne_0_6, ne_0_7, ne_0_8, ne_0_9, ne_0_10, ne_0_11, ne_0_12, ne_0_13, ne_0_14, ne_0_15, valV, intE, boolE, rowE, zeroE, rowV0, rowV1, rowV2, rowV3]
  refine DrawThen.of 1000 [0] (.old 0 (.old 1 (.old 2 (.old 3 (.old 4 (.old 5 (.old 6 (.go 7 (.new 8 (.new 9 (.go 10 (.new 11 .done)))))))))))) (fun _ _ _ _ q => q) (by kernel_rfl) (by kernel_rfl) (by kernel_rfl) ?_
  simp +contextual (maxSteps := 2000000) (disch := ((try unfold LIM at *); omega)) only [↓bcT, ↓bcF, WA, simprocAttr, wrI, valV, intE, boolE, rowE, zeroE, rowV0, rowV1, rowV2, rowV3]
  refine DCall.pure w 1000 (.new 8 (.new 9 (.go 10 (.new 11 .done)))) (by kernel_rfl) ?_
  simp +contextual (maxSteps := 2000000) (disch := ((try unfold LIM at *); omega)) only [↓bcT, ↓bcF, WA, simprocAttr, wrI, valV, intE, boolE, rowE, zeroE, rowV0, rowV1, rowV2, rowV3]
  try simp +contextual (maxSteps := 2000000) (disch := ((try unfold LIM at *); omega)) only [↓bcT, ↓bcF, WA, simprocAttr, wrI, valV, intE, boolE, rowE, zeroE, rowV0, rowV1, rowV2, rowV3]
  repeat' apply And.intro
  all_goals
    rfl
theorem w126_1 (a b : Int) : PureV C 126 [.s (.string (primW 1)), .f 3 [valV (intE a), valV (intE b)]] (.tup [.agg (valV (intE (wr (a - b)))), .s (.int .i64 0)]) := by
  refine pure_of_run Tryz.func126 rfl (by kernel_rfl) (by kernel_rfl) (by simp) (fun _ => rfl) (fun _ => rfl) 6 1000 ?_
  have w := w153_1 a b
  simp only [primW] at w
  simp +contextual (maxSteps := 2000000) (disch := ((try unfold LIM at *); omega)) only [↓bcT, ↓bcF, WA, simprocAttr, wrI, primW, ne_1_0, ne_1_2, ne_1_3, ne_1_4, ne_1_5, ne_1_6, ne_1_7, ne_1_8, ne_1_9, ne_1_10, ne_1_11, ne_1_12, ne_1_13, ne_1_14, ne_1_15, valV, intE, boolE, rowE, zeroE, rowV0, rowV1, rowV2, rowV3]
  refine DrawThen.of 1000 [0] (.old 0 (.old 1 (.old 2 (.old 3 (.old 4 (.old 5 (.old 6 (.go 7 (.new 8 (.new 9 (.go 10 (.new 11 .done)))))))))))) (fun _ _ _ _ q => q) (by kernel_rfl) (by kernel_rfl) (by kernel_rfl) ?_
  simp +contextual (maxSteps := 2000000) (disch := ((try unfold LIM at *); omega)) only [↓bcT, ↓bcF, WA, simprocAttr, wrI, valV, intE, boolE, rowE, zeroE, rowV0, rowV1, rowV2, rowV3]
  refine DCall.pure w 1000 (.new 8 (.new 9 (.go 10 (.new 11 .done)))) (by kernel_rfl) ?_
  simp +contextual (maxSteps := 2000000) (disch := ((try unfold LIM at *); omega)) only [↓bcT, ↓bcF, WA, simprocAttr, wrI, valV, intE, boolE, rowE, zeroE, rowV0, rowV1, rowV2, rowV3]
  try simp +contextual (maxSteps := 2000000) (disch := ((try unfold LIM at *); omega)) only [↓bcT, ↓bcF, WA, simprocAttr, wrI, valV, intE, boolE, rowE, zeroE, rowV0, rowV1, rowV2, rowV3]
  repeat' apply And.intro
  all_goals
    rfl
theorem w126_2 (a b : Int) : PureV C 126 [.s (.string (primW 2)), .f 3 [valV (intE a), valV (intE b)]] (.tup [.agg (valV (intE (wr (a * b)))), .s (.int .i64 0)]) := by
  refine pure_of_run Tryz.func126 rfl (by kernel_rfl) (by kernel_rfl) (by simp) (fun _ => rfl) (fun _ => rfl) 6 1000 ?_
  have w := w153_2 a b
  simp only [primW] at w
  simp +contextual (maxSteps := 2000000) (disch := ((try unfold LIM at *); omega)) only [↓bcT, ↓bcF, WA, simprocAttr, wrI, primW, ne_2_0, ne_2_1, ne_2_3, ne_2_4, ne_2_5, ne_2_6, ne_2_7, ne_2_8, ne_2_9, ne_2_10, ne_2_11, ne_2_12, ne_2_13, ne_2_14, ne_2_15, valV, intE, boolE, rowE, zeroE, rowV0, rowV1, rowV2, rowV3]
  refine DrawThen.of 1000 [0] (.old 0 (.old 1 (.old 2 (.old 3 (.old 4 (.old 5 (.old 6 (.go 7 (.new 8 (.new 9 (.go 10 (.new 11 .done)))))))))))) (fun _ _ _ _ q => q) (by kernel_rfl) (by kernel_rfl) (by kernel_rfl) ?_
  simp +contextual (maxSteps := 2000000) (disch := ((try unfold LIM at *); omega)) only [↓bcT, ↓bcF, WA, simprocAttr, wrI, valV, intE, boolE, rowE, zeroE, rowV0, rowV1, rowV2, rowV3]
  refine DCall.pure w 1000 (.new 8 (.new 9 (.go 10 (.new 11 .done)))) (by kernel_rfl) ?_
  simp +contextual (maxSteps := 2000000) (disch := ((try unfold LIM at *); omega)) only [↓bcT, ↓bcF, WA, simprocAttr, wrI, valV, intE, boolE, rowE, zeroE, rowV0, rowV1, rowV2, rowV3]
  try simp +contextual (maxSteps := 2000000) (disch := ((try unfold LIM at *); omega)) only [↓bcT, ↓bcF, WA, simprocAttr, wrI, valV, intE, boolE, rowE, zeroE, rowV0, rowV1, rowV2, rowV3]
  repeat' apply And.intro
  all_goals
    rfl
theorem w126_3z (a : Int) : PureV C 126 [.s (.string (primW 3)), .f 3 [valV (intE a), valV (intE 0)]] (.tup [.agg (valV (zeroE)), .s (.int .i64 1)]) := by
  refine pure_of_run Tryz.func126 rfl (by kernel_rfl) (by kernel_rfl) (by simp) (fun _ => rfl) (fun _ => rfl) 6 1000 ?_
  have w := w153_3z a
  simp only [primW] at w
  simp +contextual (maxSteps := 2000000) (disch := ((try unfold LIM at *); omega)) only [↓bcT, ↓bcF, WA, simprocAttr, wrI, primW, ne_3_0, ne_3_1, ne_3_2, ne_3_4, ne_3_5, ne_3_6, ne_3_7, ne_3_8, ne_3_9, ne_3_10, ne_3_11, ne_3_12, ne_3_13, ne_3_14, ne_3_15, valV, intE, boolE, rowE, zeroE, rowV0, rowV1, rowV2, rowV3]
  refine DrawThen.of 1000 [0] (.old 0 (.old 1 (.old 2 (.old 3 (.old 4 (.old 5 (.old 6 (.go 7 (.new 8 (.new 9 (.go 10 (.new 11 .done)))))))))))) (fun _ _ _ _ q => q) (by kernel_rfl) (by kernel_rfl) (by kernel_rfl) ?_
  simp +contextual (maxSteps := 2000000) (disch := ((try unfold LIM at *); omega)) only [↓bcT, ↓bcF, WA, simprocAttr, wrI, valV, intE, boolE, rowE, zeroE, rowV0, rowV1, rowV2, rowV3]
  refine DCall.pure w 1000 (.new 8 (.new 9 (.go 10 (.new 11 .done)))) (by kernel_rfl) ?_
  simp +contextual (maxSteps := 2000000) (disch := ((try unfold LIM at *); omega)) only [↓bcT, ↓bcF, WA, simprocAttr, wrI, valV, intE, boolE, rowE, zeroE, rowV0, rowV1, rowV2, rowV3]
  try simp +contextual (maxSteps := 2000000) (disch := ((try unfold LIM at *); omega)) only [↓bcT, ↓bcF, WA, simprocAttr, wrI, valV, intE, boolE, rowE, zeroE, rowV0, rowV1, rowV2, rowV3]
  repeat' apply And.intro
  all_goals
    rfl
theorem w126_3 (a b : Int) (hb : b ≠ 0) : PureV C 126 [.s (.string (primW 3)), .f 3 [valV (intE a), valV (intE b)]] (.tup [.agg (valV (intE (wr (a.tdiv b)))), .s (.int .i64 0)]) := by
  refine pure_of_run Tryz.func126 rfl (by kernel_rfl) (by kernel_rfl) (by simp) (fun _ => rfl) (fun _ => rfl) 6 1000 ?_
  have w := w153_3 a b hb
  simp only [primW] at w
  simp +contextual (maxSteps := 2000000) (disch := ((try unfold LIM at *); omega)) only [↓bcT, ↓bcF, WA, simprocAttr, wrI, primW, ne_3_0, ne_3_1, ne_3_2, ne_3_4, ne_3_5, ne_3_6, ne_3_7, ne_3_8, ne_3_9, ne_3_10, ne_3_11, ne_3_12, ne_3_13, ne_3_14, ne_3_15, valV, intE, boolE, rowE, zeroE, rowV0, rowV1, rowV2, rowV3]
  refine DrawThen.of 1000 [0] (.old 0 (.old 1 (.old 2 (.old 3 (.old 4 (.old 5 (.old 6 (.go 7 (.new 8 (.new 9 (.go 10 (.new 11 .done)))))))))))) (fun _ _ _ _ q => q) (by kernel_rfl) (by kernel_rfl) (by kernel_rfl) ?_
  simp +contextual (maxSteps := 2000000) (disch := ((try unfold LIM at *); omega)) only [↓bcT, ↓bcF, WA, simprocAttr, wrI, valV, intE, boolE, rowE, zeroE, rowV0, rowV1, rowV2, rowV3]
  refine DCall.pure w 1000 (.new 8 (.new 9 (.go 10 (.new 11 .done)))) (by kernel_rfl) ?_
  simp +contextual (maxSteps := 2000000) (disch := ((try unfold LIM at *); omega)) only [↓bcT, ↓bcF, WA, simprocAttr, wrI, valV, intE, boolE, rowE, zeroE, rowV0, rowV1, rowV2, rowV3]
  try simp +contextual (maxSteps := 2000000) (disch := ((try unfold LIM at *); omega)) only [↓bcT, ↓bcF, WA, simprocAttr, wrI, valV, intE, boolE, rowE, zeroE, rowV0, rowV1, rowV2, rowV3]
  repeat' apply And.intro
  all_goals
    rfl
theorem w126_4z (a : Int) : PureV C 126 [.s (.string (primW 4)), .f 3 [valV (intE a), valV (intE 0)]] (.tup [.agg (valV (zeroE)), .s (.int .i64 1)]) := by
  refine pure_of_run Tryz.func126 rfl (by kernel_rfl) (by kernel_rfl) (by simp) (fun _ => rfl) (fun _ => rfl) 6 1000 ?_
  have w := w153_4z a
  simp only [primW] at w
  simp +contextual (maxSteps := 2000000) (disch := ((try unfold LIM at *); omega)) only [↓bcT, ↓bcF, WA, simprocAttr, wrI, primW, ne_4_0, ne_4_1, ne_4_2, ne_4_3, ne_4_5, ne_4_6, ne_4_7, ne_4_8, ne_4_9, ne_4_10, ne_4_11, ne_4_12, ne_4_13, ne_4_14, ne_4_15, valV, intE, boolE, rowE, zeroE, rowV0, rowV1, rowV2, rowV3]
  refine DrawThen.of 1000 [0] (.old 0 (.old 1 (.old 2 (.old 3 (.old 4 (.old 5 (.old 6 (.go 7 (.new 8 (.new 9 (.go 10 (.new 11 .done)))))))))))) (fun _ _ _ _ q => q) (by kernel_rfl) (by kernel_rfl) (by kernel_rfl) ?_
  simp +contextual (maxSteps := 2000000) (disch := ((try unfold LIM at *); omega)) only [↓bcT, ↓bcF, WA, simprocAttr, wrI, valV, intE, boolE, rowE, zeroE, rowV0, rowV1, rowV2, rowV3]
  refine DCall.pure w 1000 (.new 8 (.new 9 (.go 10 (.new 11 .done)))) (by kernel_rfl) ?_
  simp +contextual (maxSteps := 2000000) (disch := ((try unfold LIM at *); omega)) only [↓bcT, ↓bcF, WA, simprocAttr, wrI, valV, intE, boolE, rowE, zeroE, rowV0, rowV1, rowV2, rowV3]
  try simp +contextual (maxSteps := 2000000) (disch := ((try unfold LIM at *); omega)) only [↓bcT, ↓bcF, WA, simprocAttr, wrI, valV, intE, boolE, rowE, zeroE, rowV0, rowV1, rowV2, rowV3]
  repeat' apply And.intro
  all_goals
    rfl
theorem w126_4 (a b : Int) (hb : b ≠ 0) : PureV C 126 [.s (.string (primW 4)), .f 3 [valV (intE a), valV (intE b)]] (.tup [.agg (valV (intE (a.tmod b))), .s (.int .i64 0)]) := by
  refine pure_of_run Tryz.func126 rfl (by kernel_rfl) (by kernel_rfl) (by simp) (fun _ => rfl) (fun _ => rfl) 6 1000 ?_
  have w := w153_4 a b hb
  simp only [primW] at w
  simp +contextual (maxSteps := 2000000) (disch := ((try unfold LIM at *); omega)) only [↓bcT, ↓bcF, WA, simprocAttr, wrI, primW, ne_4_0, ne_4_1, ne_4_2, ne_4_3, ne_4_5, ne_4_6, ne_4_7, ne_4_8, ne_4_9, ne_4_10, ne_4_11, ne_4_12, ne_4_13, ne_4_14, ne_4_15, valV, intE, boolE, rowE, zeroE, rowV0, rowV1, rowV2, rowV3]
  refine DrawThen.of 1000 [0] (.old 0 (.old 1 (.old 2 (.old 3 (.old 4 (.old 5 (.old 6 (.go 7 (.new 8 (.new 9 (.go 10 (.new 11 .done)))))))))))) (fun _ _ _ _ q => q) (by kernel_rfl) (by kernel_rfl) (by kernel_rfl) ?_
  simp +contextual (maxSteps := 2000000) (disch := ((try unfold LIM at *); omega)) only [↓bcT, ↓bcF, WA, simprocAttr, wrI, valV, intE, boolE, rowE, zeroE, rowV0, rowV1, rowV2, rowV3]
  refine DCall.pure w 1000 (.new 8 (.new 9 (.go 10 (.new 11 .done)))) (by kernel_rfl) ?_
  simp +contextual (maxSteps := 2000000) (disch := ((try unfold LIM at *); omega)) only [↓bcT, ↓bcF, WA, simprocAttr, wrI, valV, intE, boolE, rowE, zeroE, rowV0, rowV1, rowV2, rowV3]
  try simp +contextual (maxSteps := 2000000) (disch := ((try unfold LIM at *); omega)) only [↓bcT, ↓bcF, WA, simprocAttr, wrI, valV, intE, boolE, rowE, zeroE, rowV0, rowV1, rowV2, rowV3]
  repeat' apply And.intro
  all_goals
    rfl
theorem w126_5 (a b : Int) : PureV C 126 [.s (.string (primW 5)), .f 3 [valV (intE a), valV (intE b)]] (.tup [.agg (valV (boolE (decide (a < b)))), .s (.int .i64 0)]) := by
  refine pure_of_run Tryz.func126 rfl (by kernel_rfl) (by kernel_rfl) (by simp) (fun _ => rfl) (fun _ => rfl) 6 1000 ?_
  have w := w153_5 a b
  simp only [primW] at w
  simp +contextual (maxSteps := 2000000) (disch := ((try unfold LIM at *); omega)) only [↓bcT, ↓bcF, WA, simprocAttr, wrI, primW, ne_5_0, ne_5_1, ne_5_2, ne_5_3, ne_5_4, ne_5_6, ne_5_7, ne_5_8, ne_5_9, ne_5_10, ne_5_11, ne_5_12, ne_5_13, ne_5_14, ne_5_15, valV, intE, boolE, rowE, zeroE, rowV0, rowV1, rowV2, rowV3]
  refine DrawThen.of 1000 [0] (.old 0 (.old 1 (.old 2 (.old 3 (.old 4 (.old 5 (.old 6 (.go 7 (.new 8 (.new 9 (.go 10 (.new 11 .done)))))))))))) (fun _ _ _ _ q => q) (by kernel_rfl) (by kernel_rfl) (by kernel_rfl) ?_
  simp +contextual (maxSteps := 2000000) (disch := ((try unfold LIM at *); omega)) only [↓bcT, ↓bcF, WA, simprocAttr, wrI, valV, intE, boolE, rowE, zeroE, rowV0, rowV1, rowV2, rowV3]
  refine DCall.pure w 1000 (.new 8 (.new 9 (.go 10 (.new 11 .done)))) (by kernel_rfl) ?_
  simp +contextual (maxSteps := 2000000) (disch := ((try unfold LIM at *); omega)) only [↓bcT, ↓bcF, WA, simprocAttr, wrI, valV, intE, boolE, rowE, zeroE, rowV0, rowV1, rowV2, rowV3]
  try simp +contextual (maxSteps := 2000000) (disch := ((try unfold LIM at *); omega)) only [↓bcT, ↓bcF, WA, simprocAttr, wrI, valV, intE, boolE, rowE, zeroE, rowV0, rowV1, rowV2, rowV3]
  repeat' apply And.intro
  all_goals
    rfl
theorem w126_6 (a b : Int) : PureV C 126 [.s (.string (primW 6)), .f 3 [valV (intE a), valV (intE b)]] (.tup [.agg (valV (boolE (decide (a ≤ b)))), .s (.int .i64 0)]) := by
  refine pure_of_run Tryz.func126 rfl (by kernel_rfl) (by kernel_rfl) (by simp) (fun _ => rfl) (fun _ => rfl) 6 1000 ?_
  have w := w153_6 a b
  simp only [primW] at w
  simp +contextual (maxSteps := 2000000) (disch := ((try unfold LIM at *); omega)) only [↓bcT, ↓bcF, WA, simprocAttr, wrI, primW, ne_6_0, ne_6_1, ne_6_2, ne_6_3, ne_6_4, ne_6_5, ne_6_7, ne_6_8, ne_6_9, ne_6_10, ne_6_11, ne_6_12, ne_6_13, ne_6_14, ne_6_15, valV, intE, boolE, rowE, zeroE, rowV0, rowV1, rowV2, rowV3]
  refine DrawThen.of 1000 [0] (.old 0 (.old 1 (.old 2 (.old 3 (.old 4 (.old 5 (.old 6 (.go 7 (.new 8 (.new 9 (.go 10 (.new 11 .done)))))))))))) (fun _ _ _ _ q => q) (by kernel_rfl) (by kernel_rfl) (by kernel_rfl) ?_
  simp +contextual (maxSteps := 2000000) (disch := ((try unfold LIM at *); omega)) only [↓bcT, ↓bcF, WA, simprocAttr, wrI, valV, intE, boolE, rowE, zeroE, rowV0, rowV1, rowV2, rowV3]
  refine DCall.pure w 1000 (.new 8 (.new 9 (.go 10 (.new 11 .done)))) (by kernel_rfl) ?_
  simp +contextual (maxSteps := 2000000) (disch := ((try unfold LIM at *); omega)) only [↓bcT, ↓bcF, WA, simprocAttr, wrI, valV, intE, boolE, rowE, zeroE, rowV0, rowV1, rowV2, rowV3]
  try simp +contextual (maxSteps := 2000000) (disch := ((try unfold LIM at *); omega)) only [↓bcT, ↓bcF, WA, simprocAttr, wrI, valV, intE, boolE, rowE, zeroE, rowV0, rowV1, rowV2, rowV3]
  repeat' apply And.intro
  all_goals
    rfl
theorem w126_7 (a b : Int) : PureV C 126 [.s (.string (primW 7)), .f 3 [valV (intE a), valV (intE b)]] (.tup [.agg (valV (boolE (decide (a = b)))), .s (.int .i64 0)]) := by
  refine pure_of_run Tryz.func126 rfl (by kernel_rfl) (by kernel_rfl) (by simp) (fun _ => rfl) (fun _ => rfl) 6 1000 ?_
  have w := w153_7 a b
  simp only [primW] at w
  simp +contextual (maxSteps := 2000000) (disch := ((try unfold LIM at *); omega)) only [↓bcT, ↓bcF, WA, simprocAttr, wrI, primW, ne_7_0, ne_7_1, ne_7_2, ne_7_3, ne_7_4, ne_7_5, ne_7_6, ne_7_8, ne_7_9, ne_7_10, ne_7_11, ne_7_12, ne_7_13, ne_7_14, ne_7_15, valV, intE, boolE, rowE, zeroE, rowV0, rowV1, rowV2, rowV3]
  refine DrawThen.of 1000 [0] (.old 0 (.old 1 (.old 2 (.old 3 (.old 4 (.old 5 (.old 6 (.go 7 (.new 8 (.new 9 (.go 10 (.new 11 .done)))))))))))) (fun _ _ _ _ q => q) (by kernel_rfl) (by kernel_rfl) (by kernel_rfl) ?_
  simp +contextual (maxSteps := 2000000) (disch := ((try unfold LIM at *); omega)) only [↓bcT, ↓bcF, WA, simprocAttr, wrI, valV, intE, boolE, rowE, zeroE, rowV0, rowV1, rowV2, rowV3]
  refine DCall.pure w 1000 (.new 8 (.new 9 (.go 10 (.new 11 .done)))) (by kernel_rfl) ?_
  simp +contextual (maxSteps := 2000000) (disch := ((try unfold LIM at *); omega)) only [↓bcT, ↓bcF, WA, simprocAttr, wrI, valV, intE, boolE, rowE, zeroE, rowV0, rowV1, rowV2, rowV3]
  try simp +contextual (maxSteps := 2000000) (disch := ((try unfold LIM at *); omega)) only [↓bcT, ↓bcF, WA, simprocAttr, wrI, valV, intE, boolE, rowE, zeroE, rowV0, rowV1, rowV2, rowV3]
  repeat' apply And.intro
  all_goals
    rfl
end Go.Proofs.YtlhkfjannhhcbaaGreatDoor
/- part M7 -/
set_option linter.unusedVariables false
set_option linter.unusedSimpArgs false
set_option maxRecDepth 100000
namespace Go.Proofs.YtlhkfjannhhcbaaGreatDoor
open Go Go.W Go.RowKit
theorem valV_int (n : Int) : valV (intE n) = [.s (.int .i64 1), .s (.int .i64 n), .z] := rfl
theorem valV_3 (n : Int) (r : List Int) : valV ⟨3, n, r⟩ = [.s (.int .i64 3), .s (.int .i64 n), .f 1 (r.map iV)] := rfl
theorem valV_2 (n : Int) (r : List Int) : valV ⟨2, n, r⟩ = [.s (.int .i64 2), .s (.int .i64 n), .z] := rfl
theorem valV_0 : valV zeroE = [.s (.int .i64 0), .s (.int .i64 0), .z] := rfl
theorem valV_row (l : List Int) : valV (rowE l) = [.s (.int .i64 3), .s (.int .i64 0), .f 1 (l.map iV)] := rfl
theorem w126_8 (a : Int) : PureV C 126 [.s (.string (primW 8)), .f 3 [valV ⟨2, a, []⟩]] (.tup [.agg (valV (boolE (decide (a = 0)))), .s (.int .i64 0)]) := by
  refine pure_of_run Tryz.func126 rfl (by kernel_rfl) (by kernel_rfl) (by simp) (fun _ => rfl) (fun _ => rfl) 6 1000 ?_
  simp +contextual (maxSteps := 2000000) (disch := ((try unfold LIM at *); omega)) only [↓bcT, ↓bcF, WA, simprocAttr, wrI, primW, ne_8_0, ne_8_1, ne_8_2, ne_8_3, ne_8_4, ne_8_5, ne_8_6, ne_8_7, ne_8_9, ne_8_10, ne_8_11, ne_8_12, ne_8_13, ne_8_14, ne_8_15, valV, rowV2]
  refine CallThen.pure (walk101 _) 1000 ?_
  simp +contextual (maxSteps := 2000000) (disch := ((try unfold LIM at *); omega)) only [↓bcT, ↓bcF, WA, simprocAttr, wrI, valV, boolE, rowV2]
theorem w126_10 (n : Int) (r : List Int) (hr : r.length ≤ 16) : PureV C 126 [.s (.string (primW 10)), .f 3 [valV ⟨3, n, r⟩]] (.tup [.agg (valV (intE r.length)), .s (.int .i64 0)]) := by
  refine pure_of_run Tryz.func126 rfl (by kernel_rfl) (by kernel_rfl) (by simp) (fun _ => rfl) (fun _ => rfl) 6 1000 ?_
  simp +contextual (maxSteps := 2000000) (disch := ((try unfold LIM at *); omega)) only [↓bcT, ↓bcF, WA, simprocAttr, wrI, primW, ne_10_0, ne_10_1, ne_10_2, ne_10_3, ne_10_4, ne_10_5, ne_10_6, ne_10_7, ne_10_8, ne_10_9, ne_10_11, ne_10_12, ne_10_13, ne_10_14, ne_10_15, valV_int, valV_3, valV_row, List.length_map]
  intro _
  refine CallThen.pure (walk100 _) 1000 ?_
  simp +contextual (maxSteps := 2000000) (disch := ((try unfold LIM at *); omega)) only [↓bcT, ↓bcF, WA, simprocAttr, wrI, valV, intE, rowV1]
theorem w126_13 (a : Int) : PureV C 126 [.s (.string (primW 13)), .f 3 [valV (intE a)]] (.tup [.agg (valV (intE a)), .s (.int .i64 0)]) := by
  refine pure_of_run Tryz.func126 rfl (by kernel_rfl) (by kernel_rfl) (by simp) (fun _ => rfl) (fun _ => rfl) 6 1000 ?_
  simp +contextual (maxSteps := 2000000) (disch := ((try unfold LIM at *); omega)) only [↓bcT, ↓bcF, WA, simprocAttr, wrI, primW, ne_13_0, ne_13_1, ne_13_2, ne_13_3, ne_13_4, ne_13_5, ne_13_6, ne_13_7, ne_13_8, ne_13_9, ne_13_10, ne_13_11, ne_13_12, ne_13_14, ne_13_15, valV_int]
  refine CallThen.pure (walk100 _) 1000 ?_
  simp +contextual (maxSteps := 2000000) (disch := ((try unfold LIM at *); omega)) only [↓bcT, ↓bcF, WA, simprocAttr, wrI, valV, intE, rowV1]
theorem w126_9 (n : Int) (r : List Int) (k : Nat) (x : Int) (hr : r.length ≤ 16) (hx : r[k]? = some x) : PureV C 126 [.s (.string (primW 9)), .f 3 [valV ⟨3, n, r⟩, valV (intE k)]] (.tup [.agg (valV (intE x)), .s (.int .i64 0)]) := by
  refine pure_of_run Tryz.func126 rfl (by kernel_rfl) (by kernel_rfl) (by simp) (fun _ => rfl) (fun _ => rfl) 6 1000 ?_
  have hk : k < r.length := (List.getElem?_eq_some_iff.1 hx).1
  have c1 : rangeB k 0 ((r.length : Int) - 1) = true := by simp [rangeB]; omega
  have w70 := walk70 k r.length (by omega)
  rw [c1] at w70
  have p0 : (0 : Int) ≤ k := by omega
  have p1 : (k : Int) < r.length := by omega
  have hxv : (r.map iV)[k]? = some (iV x) := by rw [List.getElem?_map, hx]; rfl
  simp +contextual (maxSteps := 2000000) (disch := ((try unfold LIM at *); omega)) only [↓bcT, ↓bcF, WA, simprocAttr, wrI, primW, ne_9_0, ne_9_1, ne_9_2, ne_9_3, ne_9_4, ne_9_5, ne_9_6, ne_9_7, ne_9_8, ne_9_10, ne_9_11, ne_9_12, ne_9_13, ne_9_14, ne_9_15, valV_int, valV_3, valV_row, valV_0, List.length_map]
  intro _
  refine CallThen.pure w70 1000 ?_
  simp +contextual (maxSteps := 2000000) (disch := ((try unfold LIM at *); omega)) only [↓bcT, ↓bcF, WA, simprocAttr, wrI, primW, ne_9_0, ne_9_1, ne_9_2, ne_9_3, ne_9_4, ne_9_5, ne_9_6, ne_9_7, ne_9_8, ne_9_10, ne_9_11, ne_9_12, ne_9_13, ne_9_14, ne_9_15, List.length_map, p0, p1, hxv, iV, valV_int, valV_3]
  refine CallThen.pure (walk100 _) 1000 ?_
  simp +contextual (maxSteps := 2000000) (disch := ((try unfold LIM at *); omega)) only [↓bcT, ↓bcF, WA, simprocAttr, wrI, valV, intE, rowV1]
theorem w126_9z (n : Int) (r : List Int) (i : Int) (hr : r.length ≤ 16) (hi : ¬ (0 ≤ i ∧ i < r.length)) : PureV C 126 [.s (.string (primW 9)), .f 3 [valV ⟨3, n, r⟩, valV (intE i)]] (.tup [.agg (valV zeroE), .s (.int .i64 2)]) := by
  refine pure_of_run Tryz.func126 rfl (by kernel_rfl) (by kernel_rfl) (by simp) (fun _ => rfl) (fun _ => rfl) 6 1000 ?_
  have c1 : rangeB i 0 ((r.length : Int) - 1) = false := by simp [rangeB]; omega
  have w70 := walk70 i r.length (by omega)
  rw [c1] at w70
  simp +contextual (maxSteps := 2000000) (disch := ((try unfold LIM at *); omega)) only [↓bcT, ↓bcF, WA, simprocAttr, wrI, primW, ne_9_0, ne_9_1, ne_9_2, ne_9_3, ne_9_4, ne_9_5, ne_9_6, ne_9_7, ne_9_8, ne_9_10, ne_9_11, ne_9_12, ne_9_13, ne_9_14, ne_9_15, valV_int, valV_3, valV_row, valV_0, List.length_map]
  intro _
  refine CallThen.pure w70 1000 ?_
  simp +contextual (maxSteps := 2000000) (disch := ((try unfold LIM at *); omega)) only [↓bcT, ↓bcF, WA, simprocAttr, wrI, primW, ne_9_0, ne_9_1, ne_9_2, ne_9_3, ne_9_4, ne_9_5, ne_9_6, ne_9_7, ne_9_8, ne_9_10, ne_9_11, ne_9_12, ne_9_13, ne_9_14, ne_9_15, List.length_map, valV_0, valV_int, valV_3]
theorem w126_11z (n : Int) (r : List Int) (i c : Int) (hr : r.length ≤ 16) (hi : ¬ (0 ≤ i ∧ i < r.length)) : PureV C 126 [.s (.string (primW 11)), .f 3 [valV ⟨3, n, r⟩, valV (intE i), valV (intE c)]] (.tup [.agg (valV zeroE), .s (.int .i64 2)]) := by
  refine pure_of_run Tryz.func126 rfl (by kernel_rfl) (by kernel_rfl) (by simp) (fun _ => rfl) (fun _ => rfl) 6 1000 ?_
  have c1 : rangeB i 0 ((r.length : Int) - 1) = false := by simp [rangeB]; omega
  have w70 := walk70 i r.length (by omega)
  rw [c1] at w70
  simp +contextual (maxSteps := 2000000) (disch := ((try unfold LIM at *); omega)) only [↓bcT, ↓bcF, WA, simprocAttr, wrI, primW, ne_11_0, ne_11_1, ne_11_2, ne_11_3, ne_11_4, ne_11_5, ne_11_6, ne_11_7, ne_11_8, ne_11_9, ne_11_10, ne_11_12, ne_11_13, ne_11_14, ne_11_15, valV_int, valV_3, valV_row, valV_0, List.length_map]
  intro _
  refine CallThen.pure w70 1000 ?_
  simp +contextual (maxSteps := 2000000) (disch := ((try unfold LIM at *); omega)) only [↓bcT, ↓bcF, WA, simprocAttr, wrI, primW, ne_11_0, ne_11_1, ne_11_2, ne_11_3, ne_11_4, ne_11_5, ne_11_6, ne_11_7, ne_11_8, ne_11_9, ne_11_10, ne_11_12, ne_11_13, ne_11_14, ne_11_15, List.length_map, valV_0, valV_int, valV_3]
theorem w126_11 (n : Int) (r : List Int) (k : Nat) (c : Int) (hr : r.length ≤ 16) (hk : k < r.length) : PureV C 126 [.s (.string (primW 11)), .f 3 [valV ⟨3, n, r⟩, valV (intE k), valV (intE c)]] (.tup [.agg (valV (rowE (r.set k c))), .s (.int .i64 0)]) := by
  refine pure_of_run Tryz.func126 rfl (by kernel_rfl) (by kernel_rfl) (by simp) (fun _ => rfl) (fun _ => rfl) 6 1000 ?_
  have c1 : rangeB k 0 ((r.length : Int) - 1) = true := by simp [rangeB]; omega
  have w70 := walk70 k r.length (by omega)
  rw [c1] at w70
  have p0 : (0 : Int) ≤ k := by omega
  have p1 : (k : Int) < r.length := by omega
  simp +contextual (maxSteps := 2000000) (disch := ((try unfold LIM at *); omega)) only [↓bcT, ↓bcF, WA, simprocAttr, wrI, primW, ne_11_0, ne_11_1, ne_11_2, ne_11_3, ne_11_4, ne_11_5, ne_11_6, ne_11_7, ne_11_8, ne_11_9, ne_11_10, ne_11_12, ne_11_13, ne_11_14, ne_11_15, valV_int, valV_3, valV_row, valV_0, List.length_map]
  intro _
  refine CallThen.pure w70 1000 ?_
  simp +contextual (maxSteps := 2000000) (disch := ((try unfold LIM at *); omega)) only [↓bcT, ↓bcF, WA, simprocAttr, wrI, primW, ne_11_0, ne_11_1, ne_11_2, ne_11_3, ne_11_4, ne_11_5, ne_11_6, ne_11_7, ne_11_8, ne_11_9, ne_11_10, ne_11_12, ne_11_13, ne_11_14, ne_11_15, List.length_map, p0, p1, valV_int, valV_3, valV_row]
  refine CallThen.new (new152 r (by omega)) (nrs_map iV_nr r) (fun _ => rfl) 1000 fun cap hc => ?_
  have hset : (r.map iV).set k [V.s (.int .i64 c)] = (r.set k c).map iV := by rw [List.map_set]; rfl
  have hlen : (r.map iV).length = r.length := by simp
  obtain ⟨w, hw⟩ : ∃ w, r[k]? = some w := ⟨r[k], List.getElem?_eq_getElem hk⟩
  simp +contextual (maxSteps := 2000000) (disch := ((try unfold LIM at *); omega)) only [↓bcT, ↓bcF, WA, simprocAttr, wrI, List.length_map, p0, p1, hset, hlen, hw, Option.map_some, iV, valV_int, valV_3, valV_row]
  refine CallThen.top 2 (by simp) (by simp) 6 (args' := [.f 1 ((r.set k c).map iV)]) ⟨.inr ?_, trivial⟩ ?_
  · simp +contextual (maxSteps := 2000000) (disch := ((try unfold LIM at *); omega)) only [↓bcT, ↓bcF, WA, simprocAttr, wrI, List.length_map, List.length_set]
    rw [List.take_of_length_le (by simp), iV_frz]
  refine CallThen.pure (walk107 _) 1000 ?_
  simp +contextual (maxSteps := 2000000) (disch := ((try unfold LIM at *); omega)) only [↓bcT, ↓bcF, WA, simprocAttr, wrI, killFrom_eq, valV_row]
theorem w126_12 (n m : Int) (p q : List Int) (hp : p.length ≤ 16) (hq : q.length ≤ 16) (h : p.length + q.length ≤ 16) : PureV C 126 [.s (.string (primW 12)), .f 3 [valV ⟨3, n, p⟩, valV ⟨3, m, q⟩]] (.tup [.agg (valV (rowE (p ++ q))), .s (.int .i64 0)]) := by
  refine pure_of_run Tryz.func126 rfl (by kernel_rfl) (by kernel_rfl) (by simp) (fun _ => rfl) (fun _ => rfl) 6 1000 ?_
  simp +contextual (maxSteps := 2000000) (disch := ((try unfold LIM at *); omega)) only [↓bcT, ↓bcF, WA, simprocAttr, wrI, primW, ne_12_0, ne_12_1, ne_12_2, ne_12_3, ne_12_4, ne_12_5, ne_12_6, ne_12_7, ne_12_8, ne_12_9, ne_12_10, ne_12_11, ne_12_13, ne_12_14, ne_12_15, valV_int, valV_3, valV_row, List.length_map]
  refine DrawThen.of 1000 [] (.old 0 (.old 1 (.old 2 (.old 3 (.old 4 (.old 5 (.go 6 (.go 7 (.new 8 .done))))))))) (fun _ _ _ _ q => q) (by kernel_rfl) (by kernel_rfl) (by kernel_rfl) ?_
  simp +contextual (maxSteps := 2000000) (disch := ((try unfold LIM at *); omega)) only [↓bcT, ↓bcF, WA, simprocAttr, wrI, List.length_map]
  refine DCall.newB (new151 p q (by omega) (by omega)) (plains_map iV_plain _) 6 ?_ 1000 (.new 8 .done) (by kernel_rfl) fun cp hc => ?_
  · simp +contextual (maxSteps := 2000000) (disch := ((try unfold LIM at *); omega)) only [↓bcT, ↓bcF, WA, simprocAttr, wrI]
  simp +contextual (maxSteps := 2000000) (disch := ((try unfold LIM at *); omega)) only [↓bcT, ↓bcF, WA, simprocAttr, wrI, List.length_map]
  try simp +contextual (maxSteps := 2000000) (disch := ((try unfold LIM at *); omega)) only [↓bcT, ↓bcF, WA, simprocAttr, wrI, List.length_map]
  have hlen : ¬ (16 : Int) < (p ++ q).length := by rw [List.length_append]; omega
  refine ⟨fun x => absurd x hlen, fun _ => ?_⟩
  refine CallThen.top 3 (by simp) (by simp) 6 (args' := [.f 1 ((p ++ q).map iV)]) ⟨.inr ?_, trivial⟩ ?_
  · simp +contextual (maxSteps := 2000000) (disch := ((try unfold LIM at *); omega)) only [↓bcT, ↓bcF, WA, simprocAttr, wrI, List.length_map]
    rw [iV_frz]
  refine CallThen.pure (walk107 _) 1000 ?_
  simp +contextual (maxSteps := 2000000) (disch := ((try unfold LIM at *); omega)) only [↓bcT, ↓bcF, WA, simprocAttr, wrI, killFrom_eq, valV_row]
theorem w126_12z (n m : Int) (p q : List Int) (hp : p.length ≤ 16) (hq : q.length ≤ 16) (h : 16 < p.length + q.length) : PureV C 126 [.s (.string (primW 12)), .f 3 [valV ⟨3, n, p⟩, valV ⟨3, m, q⟩]] (.tup [.agg (valV zeroE), .s (.int .i64 3)]) := by
  refine pure_of_run Tryz.func126 rfl (by kernel_rfl) (by kernel_rfl) (by simp) (fun _ => rfl) (fun _ => rfl) 6 1000 ?_
  simp +contextual (maxSteps := 2000000) (disch := ((try unfold LIM at *); omega)) only [↓bcT, ↓bcF, WA, simprocAttr, wrI, primW, ne_12_0, ne_12_1, ne_12_2, ne_12_3, ne_12_4, ne_12_5, ne_12_6, ne_12_7, ne_12_8, ne_12_9, ne_12_10, ne_12_11, ne_12_13, ne_12_14, ne_12_15, valV_int, valV_3, valV_row, List.length_map]
  refine DrawThen.of 1000 [] (.old 0 (.old 1 (.old 2 (.old 3 (.old 4 (.old 5 (.go 6 (.go 7 (.new 8 .done))))))))) (fun _ _ _ _ q => q) (by kernel_rfl) (by kernel_rfl) (by kernel_rfl) ?_
  simp +contextual (maxSteps := 2000000) (disch := ((try unfold LIM at *); omega)) only [↓bcT, ↓bcF, WA, simprocAttr, wrI, List.length_map]
  refine DCall.newB (new151 p q (by omega) (by omega)) (plains_map iV_plain _) 6 ?_ 1000 (.new 8 .done) (by kernel_rfl) fun cp hc => ?_
  · simp +contextual (maxSteps := 2000000) (disch := ((try unfold LIM at *); omega)) only [↓bcT, ↓bcF, WA, simprocAttr, wrI]
  simp +contextual (maxSteps := 2000000) (disch := ((try unfold LIM at *); omega)) only [↓bcT, ↓bcF, WA, simprocAttr, wrI, List.length_map, valV_0]
  try simp +contextual (maxSteps := 2000000) (disch := ((try unfold LIM at *); omega)) only [↓bcT, ↓bcF, WA, simprocAttr, wrI, List.length_map]
  have hlen : (16 : Int) < (p ++ q).length := by rw [List.length_append]; omega
  exact fun x => absurd hlen x
end Go.Proofs.YtlhkfjannhhcbaaGreatDoor
/- part M8 -/
set_option linter.unusedVariables false
set_option linter.unusedSimpArgs false
set_option maxRecDepth 100000
namespace Go.Proofs.YtlhkfjannhhcbaaGreatDoor
open Go Go.W Go.RowKit
theorem kind1 {v : Val} {k : Int} (hk : k ≠ 3) (h : v.k = k) (ho : VOk v) : v = ⟨k, v.n, []⟩ := by
  obtain ⟨a, b, c⟩ := v
  simp only at h; subst h
  rw [show c = [] from ho.2 hk]
theorem kind3 {v : Val} (h : v.k = 3) : v = ⟨3, v.n, v.row⟩ := by
  obtain ⟨a, b, c⟩ := v
  simp only at h; subst h; rfl
theorem two_of {vs : List Val} {a b : Int} (h : vs.map (·.k) = [a, b]) : ∃ x y, vs = [x, y] ∧ x.k = a ∧ y.k = b := by
  match vs, h with
  | [x, y], h => simp at h; exact ⟨x, y, rfl, h.1, h.2⟩
theorem one_of {vs : List Val} {a : Int} (h : vs.map (·.k) = [a]) : ∃ x, vs = [x] ∧ x.k = a := by
  match vs, h with
  | [x], h => simp at h; exact ⟨x, rfl, h⟩
theorem three_of {vs : List Val} {a b c : Int} (h : vs.map (·.k) = [a, b, c]) : ∃ x y z, vs = [x, y, z] ∧ x.k = a ∧ y.k = b ∧ z.k = c := by
  match vs, h with
  | [x, y, z], h => simp at h; exact ⟨x, y, z, rfl, h.1, h.2.1, h.2.2⟩
theorem walk126 (p : Nat) (hp : p < 14) (vs : List Val) (hk : vs.map (·.k) = (primT p).1) (ho : ∀ v ∈ vs, VOk v) : PureV C 126 [.s (.string (primW p)), .f 3 (vs.map valV)] (.tup [.agg (valV (primE p vs).1), .s (.int .i64 (primE p vs).2)]) := by
  have nn : ∀ (q : Nat), vs.map (·.k) = [1, 1] → ∃ a b, vs = [intE a, intE b] := fun q h => by
    obtain ⟨x, y, rfl, h1, h2⟩ := two_of h
    have e1 := kind1 (by decide) h1 (ho x (by simp)); have e2 := kind1 (by decide) h2 (ho y (by simp))
    rw [e1, e2]; exact ⟨_, _, rfl⟩
  match p, hp with
  | 0, _ => obtain ⟨a, b, rfl⟩ := nn 0 hk; exact w126_0 a b
  | 1, _ => obtain ⟨a, b, rfl⟩ := nn 0 hk; exact w126_1 a b
  | 2, _ => obtain ⟨a, b, rfl⟩ := nn 0 hk; exact w126_2 a b
  | 3, _ =>
    obtain ⟨a, b, rfl⟩ := nn 0 hk
    by_cases hb : b = 0
    · subst hb; exact w126_3z a
    · have e : primE 3 [intE a, intE b] = (intE (wr (a.tdiv b)), 0) := by show (if b = 0 then _ else _) = _; rw [if_neg hb]; rfl
      rw [e]; exact w126_3 a b hb
  | 4, _ =>
    obtain ⟨a, b, rfl⟩ := nn 0 hk
    by_cases hb : b = 0
    · subst hb; exact w126_4z a
    · have e : primE 4 [intE a, intE b] = (intE (a.tmod b), 0) := by show (if b = 0 then _ else _) = _; rw [if_neg hb]; rfl
      rw [e]; exact w126_4 a b hb
  | 5, _ => obtain ⟨a, b, rfl⟩ := nn 0 hk; exact w126_5 a b
  | 6, _ => obtain ⟨a, b, rfl⟩ := nn 0 hk; exact w126_6 a b
  | 7, _ => obtain ⟨a, b, rfl⟩ := nn 0 hk; exact w126_7 a b
  | 8, _ =>
    obtain ⟨x, rfl, h1⟩ := one_of hk
    have e1 := kind1 (by decide) h1 (ho x (by simp)); rw [e1]; exact w126_8 x.n
  | 9, _ =>
    obtain ⟨x, y, rfl, h1, h2⟩ := two_of hk
    have hl := (ho x (by simp)).1
    have e1 := kind3 h1; have e2 := kind1 (by decide) h2 (ho y (by simp))
    rw [e1, e2]
    generalize x.n = n at *; generalize x.row = r at *; generalize y.n = i at *
    by_cases hb : 0 ≤ i ∧ i < r.length
    · obtain ⟨k, rfl⟩ : ∃ k : Nat, i = k := ⟨i.toNat, by omega⟩
      obtain ⟨w, hw⟩ : ∃ w, r[k]? = some w := ⟨r[k]'(by omega), List.getElem?_eq_getElem (by omega)⟩
      have e : primE 9 [⟨3, n, r⟩, ⟨1, (k : Int), []⟩] = (intE w, 0) := by
        show (if 0 ≤ (k : Int) ∧ (k : Int) < r.length then (intE (r[(k : Int).toNat]?.getD 0), (0 : Int)) else _) = _
        rw [if_pos hb, Int.toNat_natCast, hw]; rfl
      rw [e]; exact w126_9 n r k w hl hw
    · have e : primE 9 [⟨3, n, r⟩, ⟨1, i, []⟩] = (zeroE, 2) := by
        show (if 0 ≤ i ∧ i < r.length then _ else _) = _
        rw [if_neg hb]
      rw [e]; exact w126_9z n r i hl hb
  | 10, _ =>
    obtain ⟨x, rfl, h1⟩ := one_of hk
    have hl := (ho x (by simp)).1
    have e1 := kind3 h1; rw [e1]; exact w126_10 x.n x.row hl
  | 11, _ =>
    obtain ⟨x, y, z, rfl, h1, h2, h3⟩ := three_of hk
    have hl := (ho x (by simp)).1
    have e1 := kind3 h1; have e2 := kind1 (by decide) h2 (ho y (by simp)); have e3 := kind1 (by decide) h3 (ho z (by simp))
    rw [e1, e2, e3]
    generalize x.n = n at *; generalize x.row = r at *; generalize y.n = i at *; generalize z.n = c at *
    by_cases hb : 0 ≤ i ∧ i < r.length
    · obtain ⟨k, rfl⟩ : ∃ k : Nat, i = k := ⟨i.toNat, by omega⟩
      have e : primE 11 [⟨3, n, r⟩, ⟨1, (k : Int), []⟩, ⟨1, c, []⟩] = (rowE (r.set k c), 0) := by
        show (if 0 ≤ (k : Int) ∧ (k : Int) < r.length then (rowE (r.set (k : Int).toNat c), (0 : Int)) else _) = _
        rw [if_pos hb, Int.toNat_natCast]
      rw [e]; exact w126_11 n r k c hl (by omega)
    · have e : primE 11 [⟨3, n, r⟩, ⟨1, i, []⟩, ⟨1, c, []⟩] = (zeroE, 2) := by
        show (if 0 ≤ i ∧ i < r.length then _ else _) = _
        rw [if_neg hb]
      rw [e]; exact w126_11z n r i c hl hb
  | 12, _ =>
    obtain ⟨x, y, rfl, h1, h2⟩ := two_of hk
    have hl := (ho x (by simp)).1; have hl2 := (ho y (by simp)).1
    have e1 := kind3 h1; have e2 := kind3 h2
    rw [e1, e2]
    generalize x.n = n at *; generalize x.row = r at *; generalize y.n = i at *; generalize y.row = q at *
    by_cases hb : 16 < r.length + q.length
    · have e : primE 12 [⟨3, n, r⟩, ⟨3, i, q⟩] = (zeroE, 3) := by
        show (if 16 < r.length + q.length then _ else _) = _
        rw [if_pos hb]
      rw [e]; exact w126_12z n i r q hl hl2 hb
    · have e : primE 12 [⟨3, n, r⟩, ⟨3, i, q⟩] = (rowE (r ++ q), 0) := by
        show (if 16 < r.length + q.length then _ else _) = _
        rw [if_neg hb]; rfl
      rw [e]; exact w126_12 n i r q hl hl2 (by omega)
  | 13, _ =>
    obtain ⟨x, rfl, h1⟩ := one_of hk
    have e1 := kind1 (by decide) h1 (ho x (by simp)); rw [e1]; exact w126_13 x.n
end Go.Proofs.YtlhkfjannhhcbaaGreatDoor
/- part M9 -/
set_option linter.unusedVariables false
set_option linter.unusedSimpArgs false
set_option maxRecDepth 100000
namespace Go.Proofs.YtlhkfjannhhcbaaGreatDoor
open Go Go.W Go.RowKit
def aF (hi : Bool) : Nat := if hi then 29 else 33
def aC (hi : Bool) : List V := if hi then [.ptr 1 0 0] else []
def bF (hi : Bool) : Nat := if hi then 30 else 34
def aV (hi : Bool) : V := .fn (aF hi) (aC hi)
def bV (hi : Bool) : V := .fn (bF hi) []
theorem aV_rn (ρ : Nat → Nat) (h : ρ 1 = 1) (hi : Bool) : rnC ρ (aV hi) = aV hi := by cases hi <;> simp [aV, aF, aC, rnC, rnP, h]
theorem bV_rn (ρ : Nat → Nat) (hi : Bool) : rnC ρ (bV hi) = bV hi := by cases hi <;> simp [bV, rnC, rnP]
def xM (m : Img) (fuel : Nat) (mc : Mc) (hi : Bool) : Blk := xB m fuel mc (aV hi) (bV hi)
def hB (hi : Bool) (mc : Mc) : Blk := if hi then ⟨[[.l 1 (mc.high.map iV)]], 1, 1, true⟩ else Blk.dead
theorem h_nr (hi : Bool) (mc : Mc) : nrs (hB hi mc).els = true := by cases hi <;> rfl
theorem rnB_h (ρ : Nat → Nat) (hi : Bool) (mc : Mc) : rnB ρ (hB hi mc) = hB hi mc := nrs_rn _ (h_nr hi mc)
theorem rnB_x (ρ : Nat → Nat) (h : ρ 1 = 1) (m : Img) (fuel : Nat) (mc : Mc) (hi : Bool) : rnB ρ (xM m fuel mc hi) = xM m fuel mc hi := by
  show (⟨[[_, _, _, _, _, rnC ρ (aV hi), rnC ρ (bV hi)]], 7, 1, true⟩ : Blk) = _
  rw [aV_rn ρ h, bV_rn]; rfl
def outR (m : Img) (fuel : Nat) (hi : Bool) (fn : Int) (d : Nat) (q : Did Fr) : Option (V × H) := match q.2 with
  | .ok fr => some (.tup [], [xM m fuel q.1 hi, hB hi q.1, frB fn d fr])
  | .error _ => none
def stopV {α : Type} (q : Did α) : V := match q.2 with
  | .ok _ => endV 0 0
  | .error e => endV e.1 e.2
theorem stopV_rn {α : Type} (q : Did α) (ρ : Nat → Nat) : rnV ρ (stopV q) = stopV q := by
  unfold stopV; split <;> rfl
def DidS (D : Cx) (g : Nat) (args : List V) (m : Img) (fuel : Nat) (hi : Bool) (fn : Int) (d : Nat) (fr : Fr) (mc : Mc) (q : Did Fr) : Prop :=
  DidP D g args [xM m fuel mc hi, hB hi mc, frB fn d fr] (outR m fuel hi fn d q) (stopV q) [xM m fuel q.1 hi, hB hi q.1]
def popsO (fn : Int) (d : Nat) (fr : Fr) (ks : List Int) : Option (V × H) := (popsM fr.stack ks).map fun q => (.sl 1 0 ks.length ks.length, [frB fn d ⟨fr.pc, q.2, fr.slots⟩, ⟨q.1.map valV, 3, ks.length, true⟩])
theorem did105 (fn : Int) (d : Nat) (fr : Fr) (ks : List Int) (hl : fr.stack.length ≤ 100) (hk : ks.length ≤ 100) (hz : ∀ k ∈ ks, k ≠ 0) : DidP C 105 [.ptr 0 0 0, .f 1 (ks.map iV)] [frB fn d fr] (popsO fn d fr ks) (endV 3 0) [] :=
  CallsV.mono (calls105 fn d fr ks hl hk hz) fun r h' q => by
    unfold popsR at q; unfold popsO
    cases e : popsM fr.stack ks with
    | none => rw [e] at q; exact q
    | some p => rw [e] at q; exact q
theorem popsO_some {fn : Int} {d : Nat} {fr : Fr} {ks : List Int} {vs st : List Val} (h : popsM fr.stack ks = some (vs, st)) : popsO fn d fr ks = some (.sl 1 0 ks.length ks.length, [frB fn d ⟨fr.pc, st, fr.slots⟩, ⟨vs.map valV, 3, ks.length, true⟩]) := by simp [popsO, h]
theorem popsO_none {fn : Int} {d : Nat} {fr : Fr} {ks : List Int} (h : popsM fr.stack ks = none) : popsO fn d fr ks = none := by simp [popsO, h]
theorem rnB_vs (ρ : Nat → Nat) (vs : List Val) (c : Nat) : rnB ρ ⟨vs.map valV, 3, c, true⟩ = ⟨vs.map valV, 3, c, true⟩ := nrs_rn _ (nrs_map valV_nr vs)
theorem valV_frz (n0 d : Nat) (h : H) (vs : List Val) : ((vs.map valV).map fun el => el.map (frz n0 d h)) = vs.map valV := frz_els (nrs_map valV_nr vs) (leafs_map valV_ok vs)
theorem setAll2 (X Y Z B : Blk) (r t : H) : setAll (X :: Y :: Z :: r) [2] (B :: t) = X :: Y :: (B :: (r ++ t)) := by show setAll (X :: Y :: B :: r) [] t = _; rw [setAll_nil]; rfl
section
variable {N n0 : Nat} {Q : QT} {k : List It} {τ : Tau} {h : H} {dst : Option Nat}
theorem CallThen.pushF {fn : Int} {d : Nat} {fr : Fr} {v : Val} {args' : List V} (fl : List (Nat × Nat × Nat)) (hF : H) (eF : folds h fl = hF) (i : Nat) (hi : hF[i]? = some (frB fn d fr)) (hl : fr.stack.length ≤ 100) (ha : args' = [.ptr i 0 0, .agg (valV v)]) (m : Nat)
    (hr : ∀ st, pushM fr.stack v = some st → Run C N n0 m Q k (upo dst (.tup []) τ) (setAll hF [i] [frB fn d ⟨fr.pc, st, fr.slots⟩]))
    (hp : pushM fr.stack v = none → ∀ (B : Blk) (t : H), Q (.pan (endV 3 0)) τ (setAll hF [i] (B :: t))) : CallThen C N n0 Q 99 args' dst k τ h := by
  subst ha
  have D := did99 fn d fr v hl
  have ev : ∀ ρ : Nat → Nat, (valV v).map (rnC ρ) = valV v := fun ρ => by simp only [valV, List.map_cons, List.map_nil, rowV_rn]; rfl
  refine CallThen.did D [] fl [i] hF eF (by simp) ⟨.inl ⟨fr_nr _ _ _, hi⟩, trivial⟩ (by simp only [List.map_cons, List.map_nil, rnV, rnQ, ev]; rfl) (fun _ => rfl) m (fun q hq => ?_) (fun hq t ht => ?_)
  · unfold pushR at hq
    cases e : pushM fr.stack v with
    | none => rw [e] at hq; cases hq
    | some st => rw [e] at hq; cases hq; simp only [List.map_cons, List.map_nil, rnB_fr]; exact hr st e
  · cases e : pushM fr.stack v with
    | none => cases t with
      | nil => exact absurd ht (by simp)
      | cons B t => exact hp e B t
    | some st => unfold pushR at hq; rw [e] at hq; cases hq
theorem CallThen.push {fn : Int} {d : Nat} {fr : Fr} {v : Val} {args' : List V} (i : Nat) (hi : h[i]? = some (frB fn d fr)) (hl : fr.stack.length ≤ 100) (ha : args' = [.ptr i 0 0, .agg (valV v)]) (m : Nat)
    (hr : ∀ st, pushM fr.stack v = some st → Run C N n0 m Q k (upo dst (.tup []) τ) (setAll h [i] [frB fn d ⟨fr.pc, st, fr.slots⟩]))
    (hp : pushM fr.stack v = none → ∀ (B : Blk) (t : H), Q (.pan (endV 3 0)) τ (setAll h [i] (B :: t))) : CallThen C N n0 Q 99 args' dst k τ h :=
  CallThen.pushF [] h rfl i hi hl ha m hr hp
theorem CallThen.pop {fn : Int} {d : Nat} {fr : Fr} {kd : Int} {args' : List V} (i : Nat) (hi : h[i]? = some (frB fn d fr)) (hl : fr.stack.length ≤ 100) (ha : args' = [.ptr i 0 0, .s (.int .i64 kd)]) (m : Nat)
    (hr : ∀ v st, popO fr.stack kd = some (v, st) → Run C N n0 m Q k (upo dst (.agg (valV v)) τ) (setAll h [i] [frB fn d ⟨fr.pc, st, fr.slots⟩]))
    (hp : popO fr.stack kd = none → ∀ (B : Blk) (t : H), Q (.pan (endV 3 0)) τ (setAll h [i] (B :: t))) : CallThen C N n0 Q 72 args' dst k τ h := by
  subst ha
  have D := did72 fn d fr kd hl
  have ev : ∀ (ρ : Nat → Nat) (v : Val), (valV v).map (rnC ρ) = valV v := fun ρ v => by simp only [valV, List.map_cons, List.map_nil, rowV_rn]; rfl
  refine CallThen.did D [] [] [i] h rfl (by simp) ⟨.inl ⟨fr_nr _ _ _, hi⟩, trivial⟩ rfl (fun _ => rfl) m (fun q hq => ?_) (fun hq t ht => ?_)
  · unfold popR at hq
    cases e : popO fr.stack kd with
    | none => rw [e] at hq; cases hq
    | some q =>
      obtain ⟨v, st⟩ := q
      rw [e] at hq; cases hq
      simp only [List.map_cons, List.map_nil, rnB_fr, rnV, rnQ, ev]; exact hr v st e
  · cases e : popO fr.stack kd with
    | none => cases t with
      | nil => exact absurd ht (by simp)
      | cons B t => exact hp e B t
    | some st => unfold popR at hq; rw [e] at hq; cases hq
theorem CallThen.pops {fn : Int} {d : Nat} {fr : Fr} {ks : List Int} {args' : List V} (i : Nat) (hi : h[i]? = some (frB fn d fr)) (hl : fr.stack.length ≤ 100) (hk : ks.length ≤ 100) (hz : ∀ k ∈ ks, k ≠ 0) (ha : args' = [.ptr i 0 0, .f 1 (ks.map iV)]) (m : Nat)
    (hr : ∀ vs st, popsM fr.stack ks = some (vs, st) → Run C N n0 m Q k (upo dst (.sl h.length 0 ks.length ks.length) τ) (setAll h [i] [frB fn d ⟨fr.pc, st, fr.slots⟩, ⟨vs.map valV, 3, ks.length, true⟩]))
    (hp : popsM fr.stack ks = none → ∀ (B : Blk) (t : H), Q (.pan (endV 3 0)) τ (setAll h [i] (B :: t))) : CallThen C N n0 Q 105 args' dst k τ h := by
  subst ha
  have D := did105 fn d fr ks hl hk hz
  have ev : ∀ (ρ : Nat → Nat), (ks.map iV).map (fun el => el.map (rnC ρ)) = ks.map iV := fun ρ => congrArg Blk.els (rnB_iV ρ ks 0)
  refine CallThen.did D [] [] [i] h rfl (by simp) ⟨.inl ⟨fr_nr _ _ _, hi⟩, trivial⟩ rfl (fun _ => rfl) m (fun q hq => ?_) (fun hq t ht => ?_)
  · cases e : popsM fr.stack ks with
    | none => rw [popsO_none e] at hq; cases hq
    | some q =>
      obtain ⟨vs, st⟩ := q
      rw [popsO_some e] at hq; cases hq
      have e1 : emb [i] h.length 1 = h.length := by simp [emb]
      have := hr vs st e
      simp only [List.map_cons, List.map_nil, rnB_fr, rnB_vs, rnV, rnQ, rnC, rnP, e1]
      exact this
  · cases e : popsM fr.stack ks with
    | none => cases t with
      | nil => exact absurd ht (by simp)
      | cons B t => exact hp e B t
    | some q => obtain ⟨vs, st⟩ := q; rw [popsO_some e] at hq; cases hq
end
theorem primT_ks : ∀ j : Nat, j < 14 → (primT j).1.length ≤ 3 ∧ ∀ k ∈ (primT j).1, k ≠ 0
  | 0, _ => by decide
  | 1, _ => by decide
  | 2, _ => by decide
  | 3, _ => by decide
  | 4, _ => by decide
  | 5, _ => by decide
  | 6, _ => by decide
  | 7, _ => by decide
  | 8, _ => by decide
  | 9, _ => by decide
  | 10, _ => by decide
  | 11, _ => by decide
  | 12, _ => by decide
  | 13, _ => by decide
  | n + 14, h => by omega
theorem primW_ne : ∀ j : Nat, j < 14 → j ≠ 13 → ¬ primW j = ⟨#[112, 114, 105, 110, 116]⟩
  | 0, _, _ => by decide
  | 1, _, _ => by decide
  | 2, _, _ => by decide
  | 3, _, _ => by decide
  | 4, _, _ => by decide
  | 5, _, _ => by decide
  | 6, _, _ => by decide
  | 7, _, _ => by decide
  | 8, _, _ => by decide
  | 9, _, _ => by decide
  | 10, _, _ => by decide
  | 11, _, _ => by decide
  | 12, _, _ => by decide
  | 13, _, h => absurd rfl h
  | n + 14, h, _ => by omega
theorem did103 (m : Img) (fuel : Nat) (hi : Bool) (fn : Int) (d : Nat) (fr : Fr) (mc : Mc) (a : Int) (hf : FrOk fr) (hm : McOk fuel mc) (hfu : fuel ≤ 400000) :
    DidS C 103 [.ptr 0 0 0, .ptr 2 0 0, .s (.int .i64 a)] m fuel hi fn d fr mc (primM a fr mc) := by
  show CallsV C 103 _ _ _
  refine calls_of_run Tryz.func103 rfl (by kernel_rfl) (by kernel_rfl) (by simp) 1000 ?_
  have w46 := walk46 a 1 14
  by_cases c : 1 ≤ a ∧ a ≤ 14
  · have c1 : rangeB a 1 14 = true := by simp [rangeB, c]
    rw [c1] at w46
    obtain ⟨j, rfl, hj⟩ : ∃ j : Nat, a = ((j + 1 : Nat) : Int) ∧ j < 14 := ⟨(a - 1).toNat, by omega, by omega⟩
    have kj : (((j + 1 : Nat) : Int) - 1).toNat = j := by omega
    have kj2 : ((j + 1 : Nat) : Int) - 1 = j := by omega
    have j0 : (0 : Int) ≤ j := by omega
    have j1 : (j : Int) < 14 := by omega
    have hW := primCell j hj
    have w125 := walk125 j hj
    unfold primRes at w125
    have hz : ∀ k ∈ (primT j).1, k ≠ 0 := (primT_ks j hj).2
    have hk3 : (primT j).1.length ≤ 100 := by have := (primT_ks j hj).1; omega
    simp +contextual (maxSteps := 2000000) (disch := ((try unfold LIM at *); omega)) only [↓bcT, ↓bcF, WA, simprocAttr, wrI, w46]
    refine CallThen.pure w46 1000 ?_
    simp +contextual (maxSteps := 2000000) (disch := ((try unfold LIM at *); omega)) only [↓bcT, ↓bcF, WA, simprocAttr, wrI, kj2, j0, j1, hW, Nat.mul_one, Int.toNat_natCast]
    refine CallThen.pure w125 1000 ?_
    simp +contextual (maxSteps := 2000000) (disch := ((try unfold LIM at *); omega)) only [↓bcT, ↓bcF, WA, simprocAttr, wrI, kj2, j0, j1, hW, Nat.mul_one, Int.toNat_natCast]
    cases hp : popsM fr.stack (primT j).1 with
    | none =>
      have ep : primM ((j + 1 : Nat) : Int) fr mc = wrongM mc := by unfold primM; rw [if_pos c, kj, hp]
      rw [ep]
      refine CallThen.pops 2 rfl hf.1 hk3 hz rfl 1000 (fun vs st e => by rw [hp] at e; cases e) (fun hq B t => panQ ⟨rfl, _, setAll2 _ _ _ _ _ _⟩)
    | some q =>
      obtain ⟨vs, st⟩ := q
      obtain ⟨e1, e2, e3⟩ := popsM_ok hp
      have hvs : ∀ v ∈ vs, VOk v := fun v hv => hf.2.1 v (by rw [e1]; exact List.mem_append_right _ hv)
      have hvl : vs.length = (primT j).1.length := by rw [← e2, List.length_map]
      have w126 := walk126 j hj vs e2 hvs
      have ep : primM ((j + 1 : Nat) : Int) fr mc = if 0 < (primE j vs).2 then (mc, .error (2, (primE j vs).2))
          else optM ⟨mc.steps, if j = 13 then mc.out ++ [(primE j vs).1.n] else mc.out, mc.high⟩ fr (pushM st (primE j vs).1) := by
        have e14 : ∀ (α : Type) (x y : α), (if ((j + 1 : Nat) : Int) = 14 then x else y) = if j = 13 then x else y := fun α x y => by
          by_cases q : j = 13
          · rw [if_pos (by omega), if_pos q]
          · rw [if_neg (by omega), if_neg q]
        unfold primM
        rw [if_pos c, kj, hp]
        simp only [e14]
      rw [ep]
      refine CallThen.pops 2 rfl hf.1 hk3 hz rfl 1000 (fun vs' st' e => ?_) (fun hq B t => by rw [hp] at hq; cases hq)
      rw [hp] at e; cases e
      simp +contextual (maxSteps := 2000000) (disch := ((try unfold LIM at *); omega)) only [↓bcT, ↓bcF, WA, simprocAttr, wrI, rnRes, rnB_fr, rnB_vs]
      refine CallThen.top 3 (by simp) (by simp) 6 (args' := [.s (.string (primW j)), .f 3 (vs.map valV)]) ⟨.inl rfl, .inr ?_, trivial⟩ ?_
      · simp +contextual (maxSteps := 2000000) (disch := ((try unfold LIM at *); omega)) only [↓bcT, ↓bcF, WA, simprocAttr, wrI, List.length_map, hvl]
        rw [List.take_of_length_le (by simp [hvl]), valV_frz]
      refine CallThen.pure w126 1000 ?_
      by_cases c3 : 0 < (primE j vs).2
      · rw [if_pos c3]
        simp +contextual (maxSteps := 2000000) (disch := ((try unfold LIM at *); omega)) only [↓bcT, ↓bcF, WA, simprocAttr, wrI, killFrom_eq, valV, rowV_cellOk, rowV_nr, rowV_rn, c3, conc82]
        exact Up.refl (r := .pan _) ⟨rfl, _, rfl⟩
      · rw [if_neg c3]
        by_cases c4 : j = 13
        · subst c4
          have hpw : primW 13 = ⟨#[112, 114, 105, 110, 116]⟩ := rfl
          rw [if_pos rfl]
          simp +contextual (maxSteps := 2000000) (disch := ((try unfold LIM at *); omega)) only [↓bcT, ↓bcF, WA, simprocAttr, wrI, killFrom_eq, valV, rowV_cellOk, rowV_nr, rowV_rn, c3, hpw]
          refine DrawThen.of 1000 [0] (.old 0 (.old 1 (.old 2 (.old 3 (.old 5 (.old 6 (.or 4 (.go 7 (.go 8 (.old 9 (.old 10 (.go 11 .done))))) (.go 7 (.go 4 (.go 8 (.old 9 (.old 10 (.go 11 .done))))))))))))) (panFree_body _ _) (by kernel_rfl) (by kernel_rfl) (by kernel_rfl) ?_
          simp +contextual (maxSteps := 2000000) (disch := ((try unfold LIM at *); omega)) only [↓bcT, ↓bcF, WA, simprocAttr, wrI, xM, xB, List.length_map, rowV_cellOk, rowV_nr, rowV_rn]
          repeat' apply And.intro
          all_goals
            intro cap hc
            have ol := hm.2.1
            have sl := hm.1
            refine ⟨⟨by omega, by unfold LIM; omega⟩, fun cap' h1 _ => ?_⟩
            have hn : nrs (mc.out.map iV ++ [[V.s (.int .i64 (primE 13 vs).1.n)]]) = true := by
              have := nrs_map iV_nr (mc.out ++ [(primE 13 vs).1.n]); simpa [iV] using this
            have hn2 : nrs (mc.out.map iV ++ [iV (primE 13 vs).1.n]) = true := hn
            have hl7 : (mc.out.map iV ++ [[V.s (.int .i64 (primE 13 vs).1.n)]]).length = mc.out.length + 1 := by simp
            have hmap : mc.out.map iV ++ [[V.s (.int .i64 (primE 13 vs).1.n)]] = (mc.out ++ [(primE 13 vs).1.n]).map iV := by simp [iV]
            first
              | (refine CallThen.pushF [(0, 0, 4)] [xM m fuel ⟨mc.steps, mc.out ++ [(primE 13 vs).1.n], mc.high⟩ hi, hB hi mc, frB fn d ⟨fr.pc, st, fr.slots⟩, .dead, ⟨[valV (primE 13 vs).1], 3, 1, true⟩, .dead, ⟨[[V.s (.int .i64 (primE 13 vs).1.n)]], 1, 1, true⟩, .dead] ?e 2 rfl (by have := hf.1; show st.length ≤ 100; omega) rfl 1000 (fun st' hq => ?_) (fun hq B t => ?_)
                 case e => simp [folds, foldC, foldK, rdC, rdB, refB, ownOf, elsB, wrH, wrB, wrE, wrL, shrinks, shr1, gcL, hn, hn2, hl7, hmap, xM, xB, valV]; done)
              | (refine CallThen.pushF [(0, 0, 4)] [xM m fuel ⟨mc.steps, mc.out ++ [(primE 13 vs).1.n], mc.high⟩ hi, hB hi mc, frB fn d ⟨fr.pc, st, fr.slots⟩, .dead, ⟨[valV (primE 13 vs).1], 3, 1, true⟩, ⟨[[V.s (.int .i64 (primE 13 vs).1.n)]], 1, 1, true⟩, .dead, .dead] ?e 2 rfl (by have := hf.1; show st.length ≤ 100; omega) rfl 1000 (fun st' hq => ?_) (fun hq B t => ?_)
                 case e => simp [folds, foldC, foldK, rdC, rdB, refB, ownOf, elsB, wrH, wrB, wrE, wrL, shrinks, shr1, gcL, hn, hn2, hl7, hmap, xM, xB, valV]; done)
            · simp only at hq
              rw [hq]
              simp +contextual (maxSteps := 2000000) (disch := ((try unfold LIM at *); omega)) only [↓bcT, ↓bcF, WA, simprocAttr, wrI]
              exact Up.gcF (.tup []) [] [] [0, 1, 2] [xM m fuel ⟨mc.steps, mc.out ++ [(primE 13 vs).1.n], mc.high⟩ hi, hB hi mc, frB fn d ⟨fr.pc, st', fr.slots⟩] (by simp) rfl ⟨.inr (by rw [rnB_x _ rfl]; rfl), .inl ⟨h_nr _ _, rfl⟩, .inl ⟨fr_nr _ _ _, rfl⟩, trivial⟩ rfl ⟨rfl, rfl⟩
            · simp only at hq
              rw [hq]
              exact panQ ⟨rfl, _, setAll2 _ _ _ _ _ _⟩
        · have hpw : ¬ primW j = ⟨#[112, 114, 105, 110, 116]⟩ := primW_ne j hj c4
          rw [if_neg c4]
          simp +contextual (maxSteps := 2000000) (disch := ((try unfold LIM at *); omega)) only [↓bcT, ↓bcF, WA, simprocAttr, wrI, killFrom_eq, valV, rowV_cellOk, rowV_nr, rowV_rn, c3, hpw]
          refine CallThen.push 2 rfl (by have := hf.1; show st.length ≤ 100; omega) rfl 1000 (fun st' hq => ?_) (fun hq B t => ?_)
          · simp only at hq
            rw [hq]
            simp +contextual (maxSteps := 2000000) (disch := ((try unfold LIM at *); omega)) only [↓bcT, ↓bcF, WA, simprocAttr, wrI]
            exact Up.gcF (.tup []) [] [] [0, 1, 2] [xM m fuel mc hi, hB hi mc, frB fn d ⟨fr.pc, st', fr.slots⟩] (by simp) rfl ⟨.inr (by rw [rnB_x _ rfl]; rfl), .inl ⟨h_nr _ _, rfl⟩, .inl ⟨fr_nr _ _ _, rfl⟩, trivial⟩ rfl ⟨rfl, rfl⟩
          · simp only at hq
            rw [hq]
            exact panQ ⟨rfl, _, setAll2 _ _ _ _ _ _⟩
  · have c1 : rangeB a 1 14 = false := by simp [rangeB]; omega
    rw [c1] at w46
    have e : primM a fr mc = wrongM mc := by unfold primM; rw [if_neg c]
    rw [e]
    simp +contextual (maxSteps := 2000000) (disch := ((try unfold LIM at *); omega)) only [↓bcT, ↓bcF, WA, simprocAttr, wrI]
    refine CallThen.pure w46 1000 ?_
    simp +contextual (maxSteps := 2000000) (disch := ((try unfold LIM at *); omega)) only [↓bcT, ↓bcF, WA, simprocAttr, wrI]
    exact CallThen.wrong fun t => panQ ⟨rfl, _, rfl⟩
end Go.Proofs.YtlhkfjannhhcbaaGreatDoor
/- part M10 -/
set_option linter.unusedVariables false
set_option linter.unusedSimpArgs false
set_option maxRecDepth 100000
namespace Go.Proofs.YtlhkfjannhhcbaaGreatDoor
open Go Go.W Go.RowKit
def runR (m : Img) (fuel : Nat) (hi : Bool) (q : Did Val) : Option (V × H) := match q.2 with
  | .ok v => some (.agg (valV v), [xM m fuel q.1 hi, hB hi q.1])
  | .error _ => none
def RunV (m : Img) (fuel : Nat) (hi : Bool) (dd n : Nat) (run : IFun → List Val → Mc → Did Val) : Prop := ∀ (g : Nat) (f : IFun) (vs : List Val) (mc : Mc), m.funs[g]? = some f → (∀ v ∈ vs, VOk v) → vs.length ≤ 4 → McOk fuel mc → fuel - mc.steps ≤ n →
  DidP C 49 [.ptr 0 0 0, .s (.int .i64 g), .f 3 (vs.map valV), .s (.int .i64 dd)] [xM m fuel mc hi, hB hi mc] (runR m fuel hi (run f vs mc)) (stopV (run f vs mc)) [xM m fuel (run f vs mc).1 hi, hB hi (run f vs mc).1]
theorem typ_nz {t : Int} (h : typB t = true) : t ≠ 0 := by simp [typB, rangeB] at h; omega
theorem okF_args {f : IFun} (h : okF f = true) : f.args.length ≤ 4 ∧ ∀ k ∈ f.args, k ≠ 0 := by
  simp only [okF, headB, Bool.and_eq_true, decide_eq_true_eq] at h
  exact ⟨h.1.1.2.1.1.2.1, fun k hk => typ_nz (List.all_eq_true.1 h.1.1.2.1.1.2.2 k hk)⟩
theorem setAll01 (X Y X' Y' : Blk) (r t : H) : setAll (X :: Y :: r) [0, 1] (X' :: Y' :: t) = X' :: Y' :: (r ++ t) := by show setAll (X' :: Y' :: r) [] t = _; rw [setAll_nil]; rfl
theorem did104 (m : Img) (fuel : Nat) (hi : Bool) (fn : Int) (d : Nat) (fr : Fr) (mc : Mc) (a : Nat) (run : IFun → List Val → Mc → Did Val) (n : Nat) (hr : d < 30 → RunV m fuel hi (d + 1) n run) (hd : d ≤ 30) (hn : fuel - mc.steps ≤ n)
    (hf : FrOk fr) (hm : McOk fuel mc) (hok : m.funs.all okF = true) (hml : m.funs.length ≤ 72) :
    DidS C 104 [.ptr 0 0 0, .ptr 2 0 0, .s (.int .i64 a)] m fuel hi fn d fr mc (callM run m.funs d a fr mc) := by
  show CallsV C 104 _ _ _
  refine calls_of_run Tryz.func104 rfl (by kernel_rfl) (by kernel_rfl) (by simp) 1000 ?_
  have w70 := walk70 a m.funs.length (by omega)
  cases hg : m.funs[a]? with
  | none =>
    have ha := List.getElem?_eq_none_iff.1 hg
    have c1 : rangeB a 0 ((m.funs.length : Int) - 1) = false := by simp [rangeB]; omega
    rw [c1] at w70
    have e : callM run m.funs d a fr mc = wrongM mc := by unfold callM; rw [hg]
    rw [e]
    simp +contextual (maxSteps := 2000000) (disch := ((try unfold LIM at *); omega)) only [↓bcT, ↓bcF, WA, simprocAttr, wrI, xM, xB, List.length_map]
    intro _
    refine CallThen.pure w70 1000 ?_
    simp +contextual (maxSteps := 2000000) (disch := ((try unfold LIM at *); omega)) only [↓bcT, ↓bcF, WA, simprocAttr, wrI]
    exact CallThen.wrong fun t => panQ ⟨rfl, _, rfl⟩
  | some g =>
    have ha : a < m.funs.length := (List.getElem?_eq_some_iff.1 hg).1
    have c1 : rangeB a 0 ((m.funs.length : Int) - 1) = true := by simp [rangeB]; omega
    rw [c1] at w70
    have p0 : (0 : Int) ≤ a := by omega
    have p1 : (a : Int) < m.funs.length := by omega
    have hgv : (m.funs.map fnV)[a]? = some (fnV g) := by rw [List.getElem?_map, hg]; rfl
    simp only [fnV] at hgv
    obtain ⟨k1, k2⟩ := okF_args (List.all_eq_true.1 hok g (List.mem_of_getElem? hg))
    simp +contextual (maxSteps := 2000000) (disch := ((try unfold LIM at *); omega)) only [↓bcT, ↓bcF, WA, simprocAttr, wrI, xM, xB, List.length_map]
    intro _
    refine CallThen.pure w70 1000 ?_
    simp +contextual (maxSteps := 2000000) (disch := ((try unfold LIM at *); omega)) only [↓bcT, ↓bcF, WA, simprocAttr, wrI, List.length_map, p0, p1, hgv]
    cases hp : popsM fr.stack g.args with
    | none =>
      have e : callM run m.funs d a fr mc = wrongM mc := by unfold callM; rw [hg]; dsimp only; rw [hp]
      rw [e]
      refine CallThen.pops 2 rfl hf.1 (by omega) k2 rfl 1000 (fun vs st e => by rw [hp] at e; cases e) (fun hq B t => panQ ⟨rfl, _, setAll2 _ _ _ _ _ _⟩)
    | some q =>
      obtain ⟨vs, st⟩ := q
      obtain ⟨e1, e2, e3⟩ := popsM_ok hp
      have hvs : ∀ v ∈ vs, VOk v := fun v hv => hf.2.1 v (by rw [e1]; exact List.mem_append_right _ hv)
      have hvl : vs.length = g.args.length := by rw [← e2, List.length_map]
      have ec : callM run m.funs d a fr mc = if d = 30 then (mc, .error (2, 4)) else match run g vs mc with
          | (mc', .error e) => (mc', .error e)
          | (mc', .ok v) => optM mc' fr (pushM st v) := by unfold callM; rw [hg]; dsimp only; rw [hp]; rfl
      rw [ec]
      refine CallThen.pops 2 rfl hf.1 (by omega) k2 rfl 1000 (fun vs' st' e => ?_) (fun hq B t => by rw [hp] at hq; cases hq)
      rw [hp] at e; cases e
      by_cases c3 : d = 30
      · subst c3
        rw [if_pos rfl]
        simp +contextual (maxSteps := 2000000) (disch := ((try unfold LIM at *); omega)) only [↓bcT, ↓bcF, WA, simprocAttr, wrI, frB, conc82]
        exact Up.refl (r := .pan _) ⟨rfl, _, rfl⟩
      · rw [if_neg c3]
        have c3' : ¬ (d : Int) = 30 := by omega
        have R := hr (by omega) a g vs mc hg hvs (by omega) hm hn
        simp +contextual (maxSteps := 2000000) (disch := ((try unfold LIM at *); omega)) only [↓bcT, ↓bcF, WA, simprocAttr, wrI, frB, conc82, c3']
        refine CallThen.top 3 (by simp) (by simp) 6 (args' := [.ptr 0 0 0, .s (.int .i64 a), .f 3 (vs.map valV), .s (.int .i64 ((d + 1 : Nat) : Int))]) ⟨.inl rfl, .inl rfl, .inr ?_, .inl rfl, trivial⟩ ?_
        · simp +contextual (maxSteps := 2000000) (disch := ((try unfold LIM at *); omega)) only [↓bcT, ↓bcF, WA, simprocAttr, wrI, List.length_map, hvl]
          rw [List.take_of_length_le (by simp [hvl]), valV_frz]
        simp +contextual (maxSteps := 2000000) (disch := ((try unfold LIM at *); omega)) only [↓bcT, ↓bcF, WA, simprocAttr, wrI, killFrom_eq]
        have hx : ∀ mc', rnB (emb [0, 1] 4) (xM m fuel mc' hi) = xM m fuel mc' hi := fun mc' => rnB_x _ rfl _ _ _ _
        rcases hq : run g vs mc with ⟨mc', e | v⟩
        · simp only [hq, runR] at R
          refine CallThen.did R [] [] [0, 1] _ rfl (by simp) ⟨.inr (by rw [rnB_x _ rfl]; rfl), .inl ⟨h_nr _ _, rfl⟩, trivial⟩ rfl (stopV_rn _) 1000 (fun q hq => by cases hq) (fun _ t ht => ?_)
          refine panQ ⟨rfl, [frB fn d ⟨fr.pc, st, fr.slots⟩, .dead] ++ t, ?_⟩
          show setAll _ _ ([rnB (emb [0, 1] 4) (xM m fuel mc' hi), rnB (emb [0, 1] 4) (hB hi mc')] ++ t) = _
          rw [hx, rnB_h]
          exact setAll01 _ _ _ _ _ _
        · simp only [hq, runR] at R
          refine CallThen.did R [] [] [0, 1] _ rfl (by simp) ⟨.inr (by rw [rnB_x _ rfl]; rfl), .inl ⟨h_nr _ _, rfl⟩, trivial⟩ rfl (stopV_rn _) 1000 (fun q hq => ?_) (fun hq t ht => by cases hq)
          cases hq
          simp +contextual (maxSteps := 2000000) (disch := ((try unfold LIM at *); omega)) only [↓bcT, ↓bcF, WA, simprocAttr, wrI, rnB_h, valV, rowV_rn, hx]
          refine CallThen.push (fn := fn) (d := d) (fr := ⟨fr.pc, st, fr.slots⟩) (v := v) 2 rfl (by have := hf.1; show st.length ≤ 100; omega) rfl 1000 (fun st' hq => ?_) (fun hq B t => ?_)
          · simp only at hq
            rw [hq]
            simp +contextual (maxSteps := 2000000) (disch := ((try unfold LIM at *); omega)) only [↓bcT, ↓bcF, WA, simprocAttr, wrI]
            exact Up.gcF (.tup []) [] [] [0, 1, 2] [xM m fuel mc' hi, hB hi mc', frB fn d ⟨fr.pc, st', fr.slots⟩] (by simp) rfl ⟨.inr (by rw [rnB_x _ rfl]; rfl), .inl ⟨h_nr _ _, rfl⟩, .inl ⟨fr_nr _ _ _, rfl⟩, trivial⟩ rfl ⟨rfl, rfl⟩
          · simp only at hq
            rw [hq]
            exact panQ ⟨rfl, _, setAll2 _ _ _ _ _ _⟩
end Go.Proofs.YtlhkfjannhhcbaaGreatDoor
/- part M11 -/
set_option linter.unusedVariables false
set_option linter.unusedSimpArgs false
set_option maxRecDepth 100000
namespace Go.Proofs.YtlhkfjannhhcbaaGreatDoor
open Go Go.W Go.RowKit
def doPost (m : Img) (fuel : Nat) (hi : Bool) (fn : Int) (d : Nat) (q : Did Fr) (res : Res) (h' : H) : Prop := match outR m fuel hi fn d q with
  | some p => res = .ret p.1 ∧ h' = p.2
  | none => res = .pan (stopV q) ∧ ∃ t, h' = [xM m fuel q.1 hi, hB hi q.1] ++ t
section
variable {m : Img} {fuel : Nat} {hi : Bool} {fn : Int} {d : Nat} {fr : Fr} {mc : Mc} {q : Did Fr}
theorem up_do {fr' : Fr} {mc' : Mc} (r : H) (e : q = (mc', .ok fr')) : Up 3 (doPost m fuel hi fn d q) (.ret (.tup [])) (xM m fuel mc' hi :: hB hi mc' :: frB fn d fr' :: r) := by
  subst e
  refine Up.gcF (.tup []) [] [] [0, 1, 2] [xM m fuel mc' hi, hB hi mc', frB fn d fr'] (by simp) rfl ⟨.inr (by rw [rnB_x _ rfl]; rfl), .inl ⟨h_nr _ _, rfl⟩, .inl ⟨fr_nr _ _ _, rfl⟩, trivial⟩ rfl ⟨rfl, rfl⟩
theorem pan_up {e : Stop} {mc' : Mc} (r : H) (hq : q = (mc', .error e)) : Up 3 (doPost m fuel hi fn d q) (.pan (endV e.1 e.2)) (xM m fuel mc' hi :: hB hi mc' :: r) := by
  subst hq
  exact Up.refl (r := .pan _) ⟨rfl, _, rfl⟩
end
theorem optM_some {mc : Mc} {fr : Fr} {o : Option (List Val)} {st : List Val} (h : o = some st) : optM mc fr o = (mc, .ok ⟨fr.pc, st, fr.slots⟩) := by rw [h]; rfl
theorem optM_none {mc : Mc} {fr : Fr} {o : Option (List Val)} (h : o = none) : optM mc fr o = (mc, .error (3, 0)) := by rw [h]; rfl
def IsIn (x : Ins) : Prop := (x.op = 1 ∨ x.op = 2 ∨ ∃ k : Nat, x.a = k ∧ k ≤ 1000)
theorem insB_in {x : Ins} (h : insB x = true) : IsIn x ∧ 1 ≤ x.op ∧ x.op ≤ 10 := by
  unfold insB at h
  split at h
  · rename_i q; exact ⟨.inl q, by omega, by omega⟩
  split at h
  · rename_i q; exact ⟨.inr (.inl q), by omega, by omega⟩
  split at h
  · rename_i q; simp at h; exact ⟨.inr (.inr ⟨0, by omega, by omega⟩), by omega, by omega⟩
  · simp [rangeB] at h; exact ⟨.inr (.inr ⟨x.a.toNat, by omega, by omega⟩), by omega, by omega⟩
theorem did73_1 (m : Img) (fuel : Nat) (hi : Bool) (fn : Int) (d : Nat) (fr : Fr) (mc : Mc) (a : Int) (run : IFun → List Val → Mc → Did Val) (hf : FrOk fr) :
    DidS C 73 [.ptr 0 0 0, .ptr 2 0 0, .agg (insV ⟨1, a⟩)] m fuel hi fn d fr mc (doM run m.funs d ⟨1, a⟩ fr mc) := by
  show CallsV C 73 _ _ (doPost m fuel hi fn d (doM run m.funs d ⟨1, a⟩ fr mc))
  refine calls_of_run Tryz.func73 rfl (by kernel_rfl) (by kernel_rfl) (by simp) 1000 ?_
  simp +contextual (maxSteps := 2000000) (disch := ((try unfold LIM at *); omega)) only [↓bcT, ↓bcF, WA, simprocAttr, wrI, insV]
  refine CallThen.pure (walk100 _) 1000 ?_
  simp +contextual (maxSteps := 2000000) (disch := ((try unfold LIM at *); omega)) only [↓bcT, ↓bcF, WA, simprocAttr, wrI]
  refine CallThen.push (fn := fn) (d := d) (fr := fr) (v := intE a) 2 rfl hf.1 rfl 1000 (fun st' hq => ?_) (fun hq B t => ?_)
  · simp +contextual (maxSteps := 2000000) (disch := ((try unfold LIM at *); omega)) only [↓bcT, ↓bcF, WA, simprocAttr, wrI]
    exact up_do _ (optM_some hq)
  · simp +contextual (maxSteps := 2000000) (disch := ((try unfold LIM at *); omega)) only [↓bcT, ↓bcF, WA, simprocAttr, wrI]
    exact pan_up (e := (3, 0)) _ (optM_none hq)
theorem did73_2 (m : Img) (fuel : Nat) (hi : Bool) (fn : Int) (d : Nat) (fr : Fr) (mc : Mc) (a : Int) (run : IFun → List Val → Mc → Did Val) (hf : FrOk fr) :
    DidS C 73 [.ptr 0 0 0, .ptr 2 0 0, .agg (insV ⟨2, a⟩)] m fuel hi fn d fr mc (doM run m.funs d ⟨2, a⟩ fr mc) := by
  show CallsV C 73 _ _ (doPost m fuel hi fn d (doM run m.funs d ⟨2, a⟩ fr mc))
  refine calls_of_run Tryz.func73 rfl (by kernel_rfl) (by kernel_rfl) (by simp) 1000 ?_
  simp +contextual (maxSteps := 2000000) (disch := ((try unfold LIM at *); omega)) only [↓bcT, ↓bcF, WA, simprocAttr, wrI, insV]
  refine CallThen.pure (walk101 _) 1000 ?_
  simp +contextual (maxSteps := 2000000) (disch := ((try unfold LIM at *); omega)) only [↓bcT, ↓bcF, WA, simprocAttr, wrI]
  refine CallThen.push (fn := fn) (d := d) (fr := fr) (v := boolE (decide (a = 1))) 2 rfl hf.1 rfl 1000 (fun st' hq => ?_) (fun hq B t => ?_)
  · simp +contextual (maxSteps := 2000000) (disch := ((try unfold LIM at *); omega)) only [↓bcT, ↓bcF, WA, simprocAttr, wrI]
    exact up_do _ (optM_some hq)
  · simp +contextual (maxSteps := 2000000) (disch := ((try unfold LIM at *); omega)) only [↓bcT, ↓bcF, WA, simprocAttr, wrI]
    exact pan_up (e := (3, 0)) _ (optM_none hq)
theorem did73_6 (m : Img) (fuel : Nat) (hi : Bool) (fn : Int) (d : Nat) (fr : Fr) (mc : Mc) (a : Nat) (run : IFun → List Val → Mc → Did Val) :
    DidS C 73 [.ptr 0 0 0, .ptr 2 0 0, .agg (insV ⟨6, a⟩)] m fuel hi fn d fr mc (doM run m.funs d ⟨6, a⟩ fr mc) := by
  show CallsV C 73 _ _ (doPost m fuel hi fn d (doM run m.funs d ⟨6, a⟩ fr mc))
  refine calls_of_run Tryz.func73 rfl (by kernel_rfl) (by kernel_rfl) (by simp) 1000 ?_
  simp +contextual (maxSteps := 2000000) (disch := ((try unfold LIM at *); omega)) only [↓bcT, ↓bcF, WA, simprocAttr, wrI, insV, frB]
  exact up_do (fr' := ⟨a, fr.stack, fr.slots⟩) _ rfl
theorem popO_two {st : List Val} {k : Int} (hk : k ≠ 0) : popsM st [k] = (popO st k).map fun q => ([q.1], q.2) := by
  rw [popsM_one]; unfold popO
  cases st.getLast? with
  | none => rfl
  | some v =>
    dsimp only
    by_cases h : v.k = k
    · simp [h]
    · simp [h, hk]
theorem did73_7 (m : Img) (fuel : Nat) (hi : Bool) (fn : Int) (d : Nat) (fr : Fr) (mc : Mc) (a : Nat) (run : IFun → List Val → Mc → Did Val) (hf : FrOk fr) :
    DidS C 73 [.ptr 0 0 0, .ptr 2 0 0, .agg (insV ⟨7, a⟩)] m fuel hi fn d fr mc (doM run m.funs d ⟨7, a⟩ fr mc) := by
  show CallsV C 73 _ _ (doPost m fuel hi fn d (doM run m.funs d ⟨7, a⟩ fr mc))
  refine calls_of_run Tryz.func73 rfl (by kernel_rfl) (by kernel_rfl) (by simp) 1000 ?_
  have e : doM run m.funs d ⟨7, a⟩ fr mc = toM mc (unlessM fr a) := by simp [doM]
  rw [e]
  simp +contextual (maxSteps := 2000000) (disch := ((try unfold LIM at *); omega)) only [↓bcT, ↓bcF, WA, simprocAttr, wrI, insV]
  refine CallThen.pop (fn := fn) (d := d) (fr := fr) (kd := 2) 2 rfl hf.1 rfl 1000 (fun v st hq => ?_) (fun hq B t => ?_)
  · have eu : unlessM fr a = some ⟨if v.n = 0 then a else fr.pc, st, fr.slots⟩ := by unfold unlessM; rw [popO_two (by decide), hq]; rfl
    rw [eu]
    by_cases c : v.n = 0
    · simp +contextual (maxSteps := 2000000) (disch := ((try unfold LIM at *); omega)) only [↓bcT, ↓bcF, WA, simprocAttr, wrI, valV, c, frB]
      exact up_do (fr' := ⟨a, st, fr.slots⟩) _ rfl
    · simp +contextual (maxSteps := 2000000) (disch := ((try unfold LIM at *); omega)) only [↓bcT, ↓bcF, WA, simprocAttr, wrI, valV, c, frB]
      exact up_do (fr' := ⟨fr.pc, st, fr.slots⟩) _ rfl
  · have eu : unlessM fr a = none := by unfold unlessM; rw [popO_two (by decide), hq]; rfl
    simp +contextual (maxSteps := 2000000) (disch := ((try unfold LIM at *); omega)) only [↓bcT, ↓bcF, WA, simprocAttr, wrI]
    exact pan_up (e := (3, 0)) _ (by rw [eu]; rfl)
theorem did73_d (m : Img) (fuel : Nat) (hi : Bool) (fn : Int) (d : Nat) (fr : Fr) (mc : Mc) (o : Int) (a : Nat) (run : IFun → List Val → Mc → Did Val) (D5 : o = 5 → DidS C 103 [.ptr 0 0 0, .ptr 2 0 0, .s (.int .i64 a)] m fuel hi fn d fr mc (doM run m.funs d ⟨o, a⟩ fr mc))
    (D8 : o = 8 → DidS C 104 [.ptr 0 0 0, .ptr 2 0 0, .s (.int .i64 a)] m fuel hi fn d fr mc (doM run m.funs d ⟨o, a⟩ fr mc)) (ho : o = 5 ∨ o = 8) :
    DidS C 73 [.ptr 0 0 0, .ptr 2 0 0, .agg (insV ⟨o, a⟩)] m fuel hi fn d fr mc (doM run m.funs d ⟨o, a⟩ fr mc) := by
  show CallsV C 73 _ _ (doPost m fuel hi fn d (doM run m.funs d ⟨o, a⟩ fr mc))
  refine calls_of_run Tryz.func73 rfl (by kernel_rfl) (by kernel_rfl) (by simp) 1000 ?_
  have hx : ∀ mc', rnB (emb [0, 1, 2] 4) (xM m fuel mc' hi) = xM m fuel mc' hi := fun mc' => rnB_x _ rfl _ _ _ _
  have fin : ∀ {g : Nat} {dst : Option Nat} {k : List It} {τ : Tau}, DidS C g [.ptr 0 0 0, .ptr 2 0 0, .s (.int .i64 a)] m fuel hi fn d fr mc (doM run m.funs d ⟨o, a⟩ fr mc) →
      (∀ mc' fr', doM run m.funs d ⟨o, a⟩ fr mc = (mc', .ok fr') → Run C Tryz.f73.ntmps 3 1000 (bodyQ C 3 Tryz.f73 (doPost m fuel hi fn d (doM run m.funs d ⟨o, a⟩ fr mc))) k (upo dst (.tup []) τ) [xM m fuel mc' hi, hB hi mc', frB fn d fr', ⟨[insV ⟨o, a⟩], 2, 1, true⟩]) →
      CallThen C Tryz.f73.ntmps 3 (bodyQ C 3 Tryz.f73 (doPost m fuel hi fn d (doM run m.funs d ⟨o, a⟩ fr mc))) g [.ptr 0 0 0, .ptr 2 0 0, .s (.int .i64 a)] dst k τ [xM m fuel mc hi, hB hi mc, frB fn d fr, ⟨[insV ⟨o, a⟩], 2, 1, true⟩] := fun D hr => by
    unfold DidS at D
    rcases hq : doM run m.funs d ⟨o, a⟩ fr mc with ⟨mc', e | fr'⟩
    · rw [hq] at D hr
      refine CallThen.did D [] [] [0, 1, 2] _ rfl (by simp) ⟨.inr (by rw [rnB_x _ rfl]; rfl), .inl ⟨h_nr _ _, rfl⟩, .inl ⟨fr_nr _ _ _, rfl⟩, trivial⟩ rfl (stopV_rn _) 1000 (fun q hq => by cases hq) (fun _ t ht => ?_)
      cases t with
      | nil => exact absurd ht (by simp)
      | cons B t =>
        show bodyQ _ _ _ _ _ _ (setAll _ _ ([rnB (emb [0, 1, 2] 4) (xM m fuel mc' hi), rnB (emb [0, 1, 2] 4) (hB hi mc')] ++ B :: t))
        rw [hx, rnB_h]
        refine panQ ⟨rfl, [B, ⟨[insV ⟨o, a⟩], 2, 1, true⟩] ++ t, ?_⟩
        show setAll [xM m fuel mc' hi, hB hi mc', B, _] [] t = _
        rw [setAll_nil]; rfl
    · rw [hq] at D hr
      refine CallThen.did D [] [] [0, 1, 2] _ rfl (by simp) ⟨.inr (by rw [rnB_x _ rfl]; rfl), .inl ⟨h_nr _ _, rfl⟩, .inl ⟨fr_nr _ _ _, rfl⟩, trivial⟩ rfl (stopV_rn _) 1000 (fun q hq => ?_) (fun hq t ht => by cases hq)
      cases hq
      have := hr mc' fr' rfl
      simp only [List.map_cons, List.map_nil, rnB_fr, rnB_h]
      show Run _ _ _ _ _ _ _ (setAll _ _ [rnB (emb [0, 1, 2] 4) (xM m fuel mc' hi), hB hi mc', frB fn d fr'])
      rw [hx]
      exact this
  simp only [insV] at fin
  rcases ho with h | h
  · subst h
    simp +contextual (maxSteps := 2000000) (disch := ((try unfold LIM at *); omega)) only [↓bcT, ↓bcF, WA, simprocAttr, wrI, insV]
    refine fin (D5 rfl) fun mc' fr' hq => ?_
    simp +contextual (maxSteps := 2000000) (disch := ((try unfold LIM at *); omega)) only [↓bcT, ↓bcF, WA, simprocAttr, wrI]
    exact up_do _ hq
  · subst h
    simp +contextual (maxSteps := 2000000) (disch := ((try unfold LIM at *); omega)) only [↓bcT, ↓bcF, WA, simprocAttr, wrI, insV]
    refine fin (D8 rfl) fun mc' fr' hq => ?_
    simp +contextual (maxSteps := 2000000) (disch := ((try unfold LIM at *); omega)) only [↓bcT, ↓bcF, WA, simprocAttr, wrI]
    exact up_do _ hq
end Go.Proofs.YtlhkfjannhhcbaaGreatDoor
/- part M12 -/
set_option linter.unusedVariables false
set_option linter.unusedSimpArgs false
set_option maxRecDepth 100000
namespace Go.Proofs.YtlhkfjannhhcbaaGreatDoor
open Go Go.W Go.RowKit
theorem vs_rn (ρ : Nat → Nat) (vs : List Val) : (vs.map valV).map (fun el => el.map (rnC ρ)) = vs.map valV := congrArg Blk.els (rnB_vs ρ vs 0)
theorem fold_slot {els els' : List (List V)} {X Y B4 : Blk} {x0 x1 x2 y : V} {len cap : Nat} (hl : els.length = len) (hn : nrs els = true) (r : H) :
    folds (X :: Y :: ⟨[[x0, x1, x2, y, .sl 4 0 len cap]], 5, 1, true⟩ :: B4 :: ⟨els, 3, cap, true⟩ :: r) [(2, 0, 4)] = X :: Y :: ⟨[[x0, x1, x2, y, .l 3 els]], 5, 1, true⟩ :: B4 :: Blk.dead :: r := by
  simp [folds, foldC, foldK, rdC, rdB, refB, ownOf, elsB, wrH, wrB, wrE, wrL, shrinks, shr1, gcL, hl, hn]
theorem up_doF {m : Img} {fuel : Nat} {hi : Bool} {fn : Int} {d : Nat} {q : Did Fr} {fr' : Fr} {mc' : Mc} {h : H} (fl : List (Nat × Nat × Nat)) (r : H) (eF : folds h fl = xM m fuel mc' hi :: hB hi mc' :: frB fn d fr' :: r) (e : q = (mc', .ok fr')) : Up 3 (doPost m fuel hi fn d q) (.ret (.tup [])) h := by
  subst e
  refine Up.gcF (.tup []) [] fl [0, 1, 2] [xM m fuel mc' hi, hB hi mc', frB fn d fr'] (by simp) rfl ?_ rfl ⟨rfl, rfl⟩
  rw [shrinks_nil, eF]
  exact ⟨.inr (by rw [rnB_x _ rfl]; rfl), .inl ⟨h_nr _ _, rfl⟩, .inl ⟨fr_nr _ _ _, rfl⟩, trivial⟩
theorem fold_slot5 {els : List (List V)} {X Y B3 B4 : Blk} {x0 x1 x2 y : V} {len cap : Nat} (hl : els.length = len) (hn : nrs els = true) (r : H) :
    folds (X :: Y :: ⟨[[x0, x1, x2, y, .sl 5 0 len cap]], 5, 1, true⟩ :: B3 :: B4 :: ⟨els, 3, cap, true⟩ :: r) [(2, 0, 4)] = X :: Y :: ⟨[[x0, x1, x2, y, .l 3 els]], 5, 1, true⟩ :: B3 :: B4 :: Blk.dead :: r := by
  simp [folds, foldC, foldK, rdC, rdB, refB, ownOf, elsB, wrH, wrB, wrE, wrL, shrinks, shr1, gcL, hl, hn]
theorem did73_3 (m : Img) (fuel : Nat) (hi : Bool) (fn : Int) (d : Nat) (fr : Fr) (mc : Mc) (a : Nat) (run : IFun → List Val → Mc → Did Val) (hf : FrOk fr) (hs : fr.slots.length ≤ 1000) :
    DidS C 73 [.ptr 0 0 0, .ptr 2 0 0, .agg (insV ⟨3, a⟩)] m fuel hi fn d fr mc (doM run m.funs d ⟨3, a⟩ fr mc) := by
  show CallsV C 73 _ _ (doPost m fuel hi fn d (doM run m.funs d ⟨3, a⟩ fr mc))
  refine calls_of_run Tryz.func73 rfl (by kernel_rfl) (by kernel_rfl) (by simp) 1000 ?_
  have e : doM run m.funs d ⟨3, a⟩ fr mc = optM mc fr (loadM fr a) := by simp [doM]
  rw [e]
  simp +contextual (maxSteps := 2000000) (disch := ((try unfold LIM at *); omega)) only [↓bcT, ↓bcF, WA, simprocAttr, wrI, insV]
  by_cases ha : a < fr.slots.length
  · obtain ⟨v, hv⟩ : ∃ v, fr.slots[a]? = some v := ⟨fr.slots[a], List.getElem?_eq_getElem ha⟩
    have hvv : (fr.slots.map valV)[a]? = some (valV v) := by rw [List.getElem?_map, hv]; rfl
    simp only [valV] at hvv
    refine CallThen.of 1000 (CallsV.frameL (calls102 fn d fr a ha hs) [2] _ (by simp) ⟨.inl ⟨fr_nr _ _ _, rfl⟩, trivial⟩ rfl) fun res h' ⟨r, h1, ⟨cap, q0, q1, q2⟩, q3, q4, q5⟩ => ?_
    subst q1; subst q2; subst q4; subst q5
    show Run _ _ _ _ _ _ _ (setAll _ [2] [frS fn d fr 4 cap, rnB (emb [2] 4) ⟨fr.slots.map valV, 3, cap, true⟩])
    rw [rnB_vs]
    simp +contextual (maxSteps := 2000000) (disch := ((try unfold LIM at *); omega)) only [↓bcT, ↓bcF, WA, simprocAttr, wrI, rnRes, hvv, frS, rowV_cellOk, rowV_nr, rowV_rn]
    refine ⟨fun c => ?_, fun c => ?_⟩
    · have el : loadM fr a = none := by unfold loadM; rw [hv]; simp [c]
      rw [el]
      refine CallThen.wrong fun t => ?_
      exact panQ ⟨rfl, _, rfl⟩
    · have el : loadM fr a = pushM fr.stack v := by unfold loadM; rw [hv]; simp [c]
      rw [el]
      have eF := fun r => fold_slot (X := xM m fuel mc hi) (Y := hB hi mc) (B4 := ⟨[insV ⟨3, a⟩], 2, 1, true⟩) (els := fr.slots.map valV) (els' := []) (x0 := .s (.int .i64 fn)) (x1 := .s (.int .i64 fr.pc)) (x2 := .s (.int .i64 d)) (y := .l 3 (fr.stack.map valV)) (len := fr.slots.length) (cap := cap) (by simp) (nrs_map valV_nr _) r
      refine CallThen.pushF (fn := fn) (d := d) (fr := fr) (v := v) [(2, 0, 4)] _ (eF _) 2 rfl hf.1 rfl 1000 (fun st' hq => ?_) (fun hq B t => ?_)
      · simp +contextual (maxSteps := 2000000) (disch := ((try unfold LIM at *); omega)) only [↓bcT, ↓bcF, WA, simprocAttr, wrI]
        exact up_do _ (optM_some hq)
      · simp +contextual (maxSteps := 2000000) (disch := ((try unfold LIM at *); omega)) only [↓bcT, ↓bcF, WA, simprocAttr, wrI]
        exact pan_up (e := (3, 0)) _ (optM_none hq)
  · have D := did102 fn d fr a (by omega) hs
    have el : loadM fr a = none := by unfold loadM; rw [List.getElem?_eq_none (by omega)]
    refine CallThen.did D [] [] [2] _ rfl (by simp) ⟨.inl ⟨fr_nr _ _ _, rfl⟩, trivial⟩ rfl (fun _ => rfl) 1000 (fun q hq => by cases hq) (fun _ t ht => ?_)
    cases t with
    | nil => exact absurd ht (by simp)
    | cons B t =>
      simp +contextual (maxSteps := 2000000) (disch := ((try unfold LIM at *); omega)) only [↓bcT, ↓bcF, WA, simprocAttr, wrI]
      exact pan_up (e := (3, 0)) _ (by rw [el]; rfl)
theorem did73_4 (m : Img) (fuel : Nat) (hi : Bool) (fn : Int) (d : Nat) (fr : Fr) (mc : Mc) (a : Nat) (run : IFun → List Val → Mc → Did Val) (hf : FrOk fr) (hs : fr.slots.length ≤ 1000) :
    DidS C 73 [.ptr 0 0 0, .ptr 2 0 0, .agg (insV ⟨4, a⟩)] m fuel hi fn d fr mc (doM run m.funs d ⟨4, a⟩ fr mc) := by
  show CallsV C 73 _ _ (doPost m fuel hi fn d (doM run m.funs d ⟨4, a⟩ fr mc))
  refine calls_of_run Tryz.func73 rfl (by kernel_rfl) (by kernel_rfl) (by simp) 1000 ?_
  have e : doM run m.funs d ⟨4, a⟩ fr mc = toM mc (keepM fr a) := by simp [doM]
  rw [e]
  simp +contextual (maxSteps := 2000000) (disch := ((try unfold LIM at *); omega)) only [↓bcT, ↓bcF, WA, simprocAttr, wrI, insV]
  refine CallThen.pop (fn := fn) (d := d) (fr := fr) (kd := 0) 2 rfl hf.1 rfl 1000 (fun v st hq => ?_) (fun hq B t => ?_)
  · have hst : fr.stack = st ++ [v] := by
      unfold popO at hq
      rcases List.eq_nil_or_concat fr.stack with h | ⟨l, u, h⟩
      · rw [h] at hq; cases hq
      · rw [h] at hq ⊢; simp at hq ⊢; exact ⟨hq.2, by rw [hq.1]⟩
    simp +contextual (maxSteps := 2000000) (disch := ((try unfold LIM at *); omega)) only [↓bcT, ↓bcF, WA, simprocAttr, wrI, valV, rowV_cellOk, rowV_nr, rowV_rn]
    by_cases ha : a < fr.slots.length
    · have ek : keepM fr a = some ⟨fr.pc, st, fr.slots.set a v⟩ := by
        unfold keepM; rw [hst]; simp [ha]
      rw [ek]
      obtain ⟨w, hw⟩ : ∃ w, fr.slots[a]? = some w := ⟨fr.slots[a], List.getElem?_eq_getElem ha⟩
      have hwv : (fr.slots.map valV)[a]? = some (valV w) := by rw [List.getElem?_map, hw]; rfl
      have hset : (fr.slots.map valV).set a (valV v) = (fr.slots.set a v).map valV := by rw [List.map_set]
      simp only [valV] at hwv hset
      refine DrawThen.of 1000 [2] (.old 0 (.old 1 (.old 2 (.old 4 (.go 3 (.new 5 (.go 6 .done))))))) (panFree_body _ _) (by kernel_rfl) (by kernel_rfl) (by kernel_rfl) ?_
      simp +contextual (maxSteps := 2000000) (disch := ((try unfold LIM at *); omega)) only [↓bcT, ↓bcF, WA, simprocAttr, wrI, List.length_map, hwv, hset, rowV_cellOk, rowV_nr, rowV_rn]
      refine DCall.of 1000 (.new 5 (.go 6 .done)) (by kernel_rfl) (CallsV.frameL (calls102 fn d ⟨fr.pc, st, fr.slots⟩ a ha hs) [2] _ (by simp) ⟨.inl ⟨fr_nr _ _ _, rfl⟩, trivial⟩ rfl) fun res h' ⟨r, h1, ⟨cap, q0, q1, q2⟩, q3, q4, q5⟩ => ?_
      subst q1; subst q2; subst q4; subst q5
      simp +contextual (maxSteps := 2000000) (disch := ((try unfold LIM at *); omega)) only [↓bcT, ↓bcF, WA, simprocAttr, wrI, rnRes, frS, WB9, vs_rn]
      try simp +contextual (maxSteps := 2000000) (disch := ((try unfold LIM at *); omega)) only [↓bcT, ↓bcF, WA, simprocAttr, wrI, List.length_map, hwv, hset, rowV_cellOk, rowV_nr, rowV_rn]
      repeat' apply And.intro
      all_goals
        exact up_doF [(2, 0, 4)] _ (fold_slot5 (by simp) (nrs_map valV_nr _) _) rfl
    · have ek : keepM fr a = none := by unfold keepM; simp [ha]
      rw [ek]
      have D := did102 fn d ⟨fr.pc, st, fr.slots⟩ a (by show fr.slots.length ≤ a; omega) hs
      refine DrawThen.of 1000 [2] (.old 0 (.old 1 (.old 2 (.old 4 (.go 3 (.new 5 (.go 6 .done))))))) (panFree_body _ _) (by kernel_rfl) (by kernel_rfl) (by kernel_rfl) ?_
      simp +contextual (maxSteps := 2000000) (disch := ((try unfold LIM at *); omega)) only [↓bcT, ↓bcF, WA, simprocAttr, wrI, List.length_map, rowV_cellOk, rowV_nr, rowV_rn]
      refine DCall.did D [] [] [2] _ rfl (by simp) ⟨.inl ⟨fr_nr _ _ _, rfl⟩, trivial⟩ rfl (fun _ => rfl) 1000 (.new 5 (.go 6 .done)) (by kernel_rfl) (fun q hq => by cases hq) (fun hq t ht => ?_)
      cases t with
      | nil => exact absurd ht (by simp)
      | cons B t =>
        simp +contextual (maxSteps := 2000000) (disch := ((try unfold LIM at *); omega)) only [↓bcT, ↓bcF, WA, simprocAttr, wrI]
        exact pan_up (e := (3, 0)) _ rfl
      try simp +contextual (maxSteps := 2000000) (disch := ((try unfold LIM at *); omega)) only [↓bcT, ↓bcF, WA, simprocAttr, wrI, List.length_map, rowV_cellOk, rowV_nr, rowV_rn]
      repeat' apply And.intro
      all_goals
        skip
  · have hst : fr.stack = [] := by
      unfold popO at hq
      rcases List.eq_nil_or_concat fr.stack with h | ⟨l, u, h⟩
      · exact h
      · rw [h] at hq; simp at hq
    simp +contextual (maxSteps := 2000000) (disch := ((try unfold LIM at *); omega)) only [↓bcT, ↓bcF, WA, simprocAttr, wrI]
    exact pan_up (e := (3, 0)) _ (by unfold keepM; rw [if_pos hst]; rfl)
end Go.Proofs.YtlhkfjannhhcbaaGreatDoor
/- part M13 -/
set_option linter.unusedVariables false
set_option linter.unusedSimpArgs false
set_option maxRecDepth 100000
namespace Go.Proofs.YtlhkfjannhhcbaaGreatDoor
open Go Go.W Go.RowKit
theorem livesOf_sub : ∀ (l : List Nat) (hs : H), List.Sublist (livesOf l hs) l
  | [], hs => by cases hs <;> exact List.Sublist.refl _
  | i :: l, [] => List.nil_sublist _
  | i :: l, B :: hs => by
    unfold livesOf
    split
    · exact (livesOf_sub l hs).cons_cons i
    · exact (livesOf_sub l hs).cons i
theorem livesOf_nodup {l : List Nat} (h : l.Nodup) (hs : H) : (livesOf l hs).Nodup := h.sublist (livesOf_sub l hs)
theorem rep_iV (k : Nat) : (List.replicate k (1 : Int)).map iV = List.replicate k [V.s (.int .i64 1)] := by rw [List.map_replicate]; rfl
theorem did73_10 (m : Img) (fuel : Nat) (hi : Bool) (fn : Int) (d : Nat) (fr : Fr) (mc : Mc) (a : Nat) (run : IFun → List Val → Mc → Did Val) (hf : FrOk fr) :
    DidS C 73 [.ptr 0 0 0, .ptr 2 0 0, .agg (insV ⟨10, a⟩)] m fuel hi fn d fr mc (doM run m.funs d ⟨10, a⟩ fr mc) := by
  show CallsV C 73 _ _ (doPost m fuel hi fn d (doM run m.funs d ⟨10, a⟩ fr mc))
  refine calls_of_run Tryz.func73 rfl (by kernel_rfl) (by kernel_rfl) (by simp) 1000 ?_
  have e : doM run m.funs d ⟨10, a⟩ fr mc = optM mc fr (rowM fr a) := by simp [doM]
  rw [e]
  by_cases c : 16 < a
  · have er : rowM fr a = none := by unfold rowM; rw [if_pos c]
    have c' : (16 : Int) < a := by omega
    rw [er]
    simp +contextual (maxSteps := 2000000) (disch := ((try unfold LIM at *); omega)) only [↓bcT, ↓bcF, WA, simprocAttr, wrI, insV, c']
    refine CallThen.wrong fun t => ?_
    exact panQ ⟨rfl, _, rfl⟩
  · have c' : ¬ (16 : Int) < a := by omega
    have p106 := pure106 a (by omega)
    simp +contextual (maxSteps := 2000000) (disch := ((try unfold LIM at *); omega)) only [↓bcT, ↓bcF, WA, simprocAttr, wrI, insV, c']
    refine CallThen.top 5 (by simp) (by simp) 6 (args' := [.f 1 [iV 1], .s (.int .i64 a)]) ⟨.inr rfl, .inl rfl, trivial⟩ ?_
    refine CallThen.pure p106 1000 ?_
    simp +contextual (maxSteps := 2000000) (disch := ((try unfold LIM at *); omega)) only [↓bcT, ↓bcF, WA, simprocAttr, wrI, killFrom_eq]
    cases hp : popsM fr.stack (List.replicate a 1) with
    | none =>
      have er : rowM fr a = none := by unfold rowM; rw [if_neg c, hp]
      rw [er]
      refine CallThen.pops (fn := fn) (d := d) (fr := fr) (ks := List.replicate a 1) 2 rfl hf.1 (by simp; omega) (fun k hk => by rw [List.eq_of_mem_replicate hk]; decide) (by rw [rep_iV]) 1000 (fun vs st e => by rw [hp] at e; cases e) (fun hq B t => ?_)
      simp +contextual (maxSteps := 2000000) (disch := ((try unfold LIM at *); omega)) only [↓bcT, ↓bcF, WA, simprocAttr, wrI]
      exact pan_up (e := (3, 0)) _ rfl
    | some q =>
      obtain ⟨vs, st⟩ := q
      obtain ⟨e1, e2, e3⟩ := popsM_ok hp
      have hvl : vs.length = a := by have := congrArg List.length e2; simpa using this
      have er : rowM fr a = pushM st (rowE (vs.map (·.n))) := by unfold rowM; rw [if_neg c, hp]
      rw [er]
      refine CallThen.pops (fn := fn) (d := d) (fr := fr) (ks := List.replicate a 1) 2 rfl hf.1 (by simp; omega) (fun k hk => by rw [List.eq_of_mem_replicate hk]; decide) (by rw [rep_iV]) 1000 (fun vs' st' e => ?_) (fun hq B t => by rw [hp] at hq; cases hq)
      rw [hp] at e; cases e
      simp +contextual (maxSteps := 2000000) (disch := ((try unfold LIM at *); omega)) only [↓bcT, ↓bcF, WA, simprocAttr, wrI, List.length_replicate]
      refine LoopThen.ownG 3 (ι := Nat × Nat) (fun s => s.1 ≤ a ∧ s.1 ≤ s.2) (fun s => [(0, .ptr 0 0 0), (1, .ptr 2 0 0), (5, .ptr 3 0 0), (8, .sl 4 0 s.1 s.2), (97, .sl 5 0 a a), (98, .s (.int .i64 a)), (99, .s (.int .i64 s.1))])
        (fun s => [xM m fuel mc hi, hB hi mc, frB fn d ⟨fr.pc, st, fr.slots⟩, ⟨[insV ⟨10, a⟩], 2, 1, true⟩, ⟨((vs.take s.1).map (·.n)).map iV, 1, s.2, true⟩, ⟨vs.map valV, 3, a, true⟩]) (fun s => a - s.1) 1000 1000
        ⟨(0, 0), ⟨Nat.zero_le _, Nat.zero_le _⟩, [], [], [0, 1, 2, 3, 4, 6], ⟨livesOf_nodup (by simp) _, rfl⟩, ⟨.inr (.inr (by rw [rnB_x _ rfl]; rfl)), .inr (.inl ⟨h_nr _ _, rfl⟩), .inr (.inl ⟨fr_nr _ _ _, rfl⟩), .inr (.inl ⟨rfl, rfl⟩), .inr (.inl ⟨rfl, rfl⟩), .inr (.inl ⟨nrs_map valV_nr vs, rfl⟩), trivial⟩, by simp +contextual (maxSteps := 2000000) (disch := ((try unfold LIM at *); omega)) only [↓bcT, ↓bcF, WA, simprocAttr, wrI]⟩ ?_
      rintro ⟨i, cap⟩ ⟨p1, p2⟩
      simp only at p1 p2
      by_cases c2 : i < a
      · have c2' : (i : Int) < a := by omega
        have pi : (0 : Int) ≤ i := by omega
        obtain ⟨v, hv⟩ : ∃ v, vs[i]? = some v := ⟨vs[i]'(by omega), List.getElem?_eq_getElem (by omega)⟩
        have hvv : (vs.map valV)[i]? = some (valV v) := by rw [List.getElem?_map, hv]; rfl
        simp only [valV] at hvv
        have hil : ((vs.take i).map (·.n)).length = i := by simp; omega
        simp +contextual (maxSteps := 2000000) (disch := ((try unfold LIM at *); omega)) only [↓bcT, ↓bcF, WA, simprocAttr, wrI, List.length_map, hvl, c2', pi, hvv, rowV_cellOk, rowV_nr, rowV_rn, hil]
        refine ⟨⟨by omega, by unfold LIM; omega⟩, fun cap' h1 _ => ?_⟩
        have hap : ((vs.take i).map (·.n)).map iV ++ [[V.s (.int .i64 v.n)]] = ((vs.take (i + 1)).map (·.n)).map iV := by rw [List.take_add_one, hv]; simp [iV]
        refine ⟨(i + 1, cap'), ⟨⟨by simp only; omega, by simp only; omega⟩, by simp only; omega⟩, [], [], [0, 1, 2, 3, 8, 5], ⟨livesOf_nodup (by simp) _, rfl⟩, ⟨.inr (.inr (by rw [rnB_x _ rfl]; rfl)), .inr (.inl ⟨h_nr _ _, rfl⟩), .inr (.inl ⟨fr_nr _ _ _, rfl⟩), .inr (.inl ⟨rfl, rfl⟩), .inr (.inl ⟨nrs_map iV_nr _, by simp only [folds_nil, shrinks_nil]; rw [← hap]; rfl⟩), .inr (.inl ⟨nrs_map valV_nr vs, rfl⟩), trivial⟩, by simp +contextual (maxSteps := 2000000) (disch := ((try unfold LIM at *); omega)) only [↓bcT, ↓bcF, WA, simprocAttr, wrI, cast_succ]⟩
      · have ei : i = a := by omega
        subst ei
        have c2' : ¬ (i : Int) < i := by omega
        have ht : vs.take i = vs := List.take_of_length_le (by omega)
        simp +contextual (maxSteps := 2000000) (disch := ((try unfold LIM at *); omega)) only [↓bcT, ↓bcF, WA, simprocAttr, wrI, List.length_map, hvl, c2', ht]
        refine CallThen.top 4 (by simp) (by simp) 6 (args' := [.f 1 ((vs.map (·.n)).map iV)]) ⟨.inr ?_, trivial⟩ ?_
        · simp +contextual (maxSteps := 2000000) (disch := ((try unfold LIM at *); omega)) only [↓bcT, ↓bcF, WA, simprocAttr, wrI, List.length_map, hvl]
          rw [List.take_of_length_le (by simp [hvl]), iV_frz]
        refine CallThen.pure (walk107 _) 1000 ?_
        simp +contextual (maxSteps := 2000000) (disch := ((try unfold LIM at *); omega)) only [↓bcT, ↓bcF, WA, simprocAttr, wrI, killFrom_eq]
        refine CallThen.push (fn := fn) (d := d) (fr := ⟨fr.pc, st, fr.slots⟩) (v := rowE (vs.map (·.n))) 2 rfl (by have := hf.1; show st.length ≤ 100; omega) rfl 1000 (fun st' hq => ?_) (fun hq B t => ?_)
        · simp +contextual (maxSteps := 2000000) (disch := ((try unfold LIM at *); omega)) only [↓bcT, ↓bcF, WA, simprocAttr, wrI]
          exact up_do _ (optM_some hq)
        · simp +contextual (maxSteps := 2000000) (disch := ((try unfold LIM at *); omega)) only [↓bcT, ↓bcF, WA, simprocAttr, wrI]
          exact pan_up (e := (3, 0)) _ (optM_none hq)
end Go.Proofs.YtlhkfjannhhcbaaGreatDoor
/- part M14 -/
set_option linter.unusedVariables false
set_option linter.unusedSimpArgs false
set_option maxRecDepth 100000
namespace Go.Proofs.YtlhkfjannhhcbaaGreatDoor
open Go Go.W Go.RowKit
theorem rep_leafsZ (k : Nat) : leafs (List.replicate k [V.s (.int .i64 0), V.s (.int .i64 0), V.z]) = true := List.all_eq_true.2 fun el h => by rw [List.eq_of_mem_replicate h]; rfl
def szsV (p q : List Val) : Nat → Nat
  | 0 => 0
  | 1 => p.length
  | _ => p.length + q.length
def prtV (p q : List Val) : Nat → List Val
  | 0 => []
  | 1 => p
  | _ => p ++ q
theorem own98 (k : Nat) (hk : k ≤ 2000) (h0 : 0 < k) : CallsV C 98 [.sl 0 0 0 0, .s (.int .i64 k)] [⟨[], 3, 0, true⟩] fun res h' => ∃ cap, res = .ret (.sl 1 0 0 cap) ∧ h' = [⟨[], 3, 0, true⟩, ⟨[], 3, cap, true⟩] := by
  refine calls_of_run Tryz.func98 rfl (by kernel_rfl) (by kernel_rfl) (by simp) 1000 ?_
  have c1 : ¬ (k : Int) < 0 := by omega
  have c2 : (0 : Int) < k := by omega
  have b1 : (0 : Int) ≤ k := by omega
  have b2 : (k : Int) ≤ 4611686018427387904 ∧ 0 < k ∧ k * 40 ≤ 140737488355328 ∧ k ≤ LIM := by unfold LIM; omega
  simp +contextual (maxSteps := 2000000) (disch := ((try unfold LIM at *); omega)) only [↓bcT, ↓bcF, WA, simprocAttr, wrI, c1, c2, b1, b2, rep_leafsZ, List.length_replicate, Int.sub_zero, Nat.zero_add, takeTo]
  intro cap hcap
  exact ⟨by omega, Up.gcF (.sl 1 0 0 cap) [(1, 0)] [] [0, 1] [⟨[], 3, 0, true⟩, ⟨[], 3, cap, true⟩] (by simp) rfl ⟨.inl ⟨rfl, rfl⟩, .inl ⟨rfl, rfl⟩, trivial⟩ rfl ⟨cap, rfl, rfl⟩⟩
theorem new98 (k : Nat) (hk : k ≤ 2000) : NewV C 98 [.z, .s (.int .i64 k)] 3 [] := by
  by_cases h0 : 0 < k
  · exact ((own98 k hk h0).nilArg (h := []) (args := [.z, .s (.int .i64 k)]) ⟨.inr ⟨rfl, rfl⟩, .inl rfl, trivial⟩).up fun r h' ⟨cap, e1, e2⟩ => by
      subst e1; subst e2
      exact Up.gc (.sl 0 0 0 cap) [1] [⟨[], 3, cap, true⟩] (by simp) ⟨.inl ⟨rfl, rfl⟩, trivial⟩ rfl ⟨cap, Nat.zero_le _, rfl, rfl⟩
  · have c3 : k = 0 := by omega
    subst c3
    refine calls_of_run Tryz.func98 rfl (by kernel_rfl) (by kernel_rfl) (by simp) 1000 ?_
    simp +contextual (maxSteps := 2000000) (disch := ((try unfold LIM at *); omega)) only [↓bcT, ↓bcF, WA, simprocAttr, wrI]
    exact Up.nil 3 ⟨0, by simp, rfl, rfl⟩
theorem prtV0 (p q : List Val) : prtV p q 0 = [] := rfl
theorem prtV1 (p q : List Val) : prtV p q 1 = p := rfl
theorem prtV2 (p q : List Val) : prtV p q 2 = p ++ q := rfl
theorem new71 (p q : List Val) (hp : p.length ≤ 1000) (hq : q.length ≤ 1000) : NewV C 71 [.f 1 [[.f 3 (p.map valV)], [.f 3 (q.map valV)]]] 3 ((p ++ q).map valV) := by
  refine calls_of_run Tryz.func71 rfl (by kernel_rfl) (by kernel_rfl) (by simp) 1000 ?_
  simp +contextual (maxSteps := 2000000) (disch := ((try unfold LIM at *); omega)) only [↓bcT, ↓bcF, WA, simprocAttr, wrI]
  intro _
  refine LoopThen.own (ι := Nat) (fun i => i ≤ 2) (fun i => [(0, .f 1 [[.f 3 (p.map valV)], [.f 3 (q.map valV)]]), (9, .f 1 [[.f 3 (p.map valV)], [.f 3 (q.map valV)]]), (10, .s (.int .i64 2)), (11, .s (.int .i64 i)), (3, .s (.int .i64 (szsV p q i)))]) (fun _ => []) (fun i => 2 - i) 1000 1000
    ⟨0, by omega, [], by simp, trivial, by simp +contextual (maxSteps := 2000000) (disch := ((try unfold LIM at *); omega)) only [↓bcT, ↓bcF, WA, simprocAttr, wrI, szsV]⟩ ?_
  have a1 : ¬ ((p.length : Int)) < 0 := by omega
  have a2 : ¬ ((p.length : Int) + q.length) < 0 := by omega
  have a3 : (-9223372036854775808 : Int) ≤ (p.length : Int) + q.length := by omega
  have a4 : (p.length : Int) + q.length ≤ 9223372036854775807 := by omega
  intro i hi
  match i, hi with
  | 0, _ =>
    simp +contextual (maxSteps := 2000000) (disch := ((try unfold LIM at *); omega)) only [↓bcT, ↓bcF, WA, simprocAttr, wrI, szsV, List.length_map, a1, Int.zero_add]
    intros
    exact ⟨1, ⟨by omega, by omega⟩, [], by simp, trivial, by simp +contextual (maxSteps := 2000000) (disch := ((try unfold LIM at *); omega)) only [↓bcT, ↓bcF, WA, simprocAttr, wrI, szsV]⟩
  | 1, _ =>
    simp +contextual (maxSteps := 2000000) (disch := ((try unfold LIM at *); omega)) only [↓bcT, ↓bcF, WA, simprocAttr, wrI, szsV, List.length_map, a2, a3, a4]
    intros
    exact ⟨2, ⟨by omega, by omega⟩, [], by simp, trivial, by simp +contextual (maxSteps := 2000000) (disch := ((try unfold LIM at *); omega)) only [↓bcT, ↓bcF, WA, simprocAttr, wrI, szsV, Int.natCast_add]⟩
  | 2, _ =>
    simp +contextual (maxSteps := 2000000) (disch := ((try unfold LIM at *); omega)) only [↓bcT, ↓bcF, WA, simprocAttr, wrI, szsV]
    refine CallThen.new (new98 (p.length + q.length) (by omega)) rfl (fun _ => rfl) 1000 fun cp hcp => ?_
    simp +contextual (maxSteps := 2000000) (disch := ((try unfold LIM at *); omega)) only [↓bcT, ↓bcF, WA, simprocAttr, wrI]
    intro _
    refine LoopThen.own (ι := Nat × Nat) (fun i => i.1 ≤ 2 ∧ (prtV p q i.1).length ≤ i.2) (fun i => [(25, .f 1 [[.f 3 (p.map valV)], [.f 3 (q.map valV)]]), (26, .s (.int .i64 2)), (27, .s (.int .i64 i.1)), (6, .sl 0 0 (prtV p q i.1).length i.2)]) (fun i => [⟨(prtV p q i.1).map valV, 3, i.2, true⟩]) (fun i => 2 - i.1) 1000 1000
      ⟨(0, cp), ⟨by simp, by simp [prtV]⟩, [0], by simp, ⟨.inl ⟨nrs_map valV_nr _, rfl⟩, trivial⟩, by simp +contextual (maxSteps := 2000000) (disch := ((try unfold LIM at *); omega)) only [↓bcT, ↓bcF, WA, simprocAttr, wrI, prtV0, nm_at]⟩ ?_
    rintro ⟨i, cp2⟩ ⟨hi, hcp2⟩
    match i, hi, hcp2 with
    | 0, _, _ =>
      have b2 : p.length * 40 ≤ 140737488355328 ∧ p.length ≤ LIM := by unfold LIM; omega
      simp +contextual (maxSteps := 2000000) (disch := ((try unfold LIM at *); omega)) only [↓bcT, ↓bcF, WA, simprocAttr, wrI, prtV0, List.length_map, leafs_map valV_ok, takeTo, List.take_length, take_map_len, b2, Nat.zero_add]
      intro cap' h1 _
      exact ⟨(1, cap'), ⟨⟨by simp, h1⟩, by simp⟩, [1], by simp, ⟨.inl ⟨nrs_map valV_nr _, rfl⟩, trivial⟩, by simp +contextual (maxSteps := 2000000) (disch := ((try unfold LIM at *); omega)) only [↓bcT, ↓bcF, WA, simprocAttr, wrI, prtV1, nm_at]⟩
    | 1, _, _ =>
      have b2 : (p.length + q.length) * 40 ≤ 140737488355328 ∧ p.length + q.length ≤ LIM := by unfold LIM; omega
      simp +contextual (maxSteps := 2000000) (disch := ((try unfold LIM at *); omega)) only [↓bcT, ↓bcF, WA, simprocAttr, wrI, prtV1, List.length_map, leafs_map valV_ok, takeTo, List.take_length, take_map_len, b2, ite_true, ← List.map_append]
      intro cap' h1 _
      exact ⟨(2, cap'), ⟨⟨by simp, by simpa [prtV2] using h1⟩, by simp⟩, [1], by simp, ⟨.inl ⟨nrs_map valV_nr _, rfl⟩, trivial⟩, by simp +contextual (maxSteps := 2000000) (disch := ((try unfold LIM at *); omega)) only [↓bcT, ↓bcF, WA, simprocAttr, wrI, prtV2, nm_at, List.length_append]⟩
    | 2, _, hcp2 =>
      simp +contextual (maxSteps := 2000000) (disch := ((try unfold LIM at *); omega)) only [↓bcT, ↓bcF, WA, simprocAttr, wrI, prtV2]
      exact Up.gcF (.sl 0 0 (p ++ q).length cp2) [] [] [0] [⟨(p ++ q).map valV, 3, cp2, true⟩] (by simp) rfl ⟨.inl ⟨nrs_map valV_nr _, rfl⟩, trivial⟩ rfl ⟨cp2, by simpa [prtV2] using hcp2, by rw [List.length_map], rfl⟩
end Go.Proofs.YtlhkfjannhhcbaaGreatDoor
/- part M15 -/
set_option linter.unusedVariables false
set_option linter.unusedSimpArgs false
set_option maxRecDepth 100000
namespace Go.Proofs.YtlhkfjannhhcbaaGreatDoor
open Go Go.W Go.RowKit
def upHigh (mc : Mc) (x : Int) : Mc := ⟨mc.steps, mc.out, mc.high ++ [x]⟩
theorem fold_h {els : List (List V)} {X A B : Blk} {len cap : Nat} (hl : els.length = len) (hn : nrs els = true) :
    folds [X, ⟨[[.sl 4 0 len cap]], 1, 1, true⟩, A, B, ⟨els, 1, cap, true⟩] [(1, 0, 0)] = [X, ⟨[[.l 1 els]], 1, 1, true⟩, A, B, Blk.dead] := by
  simp [folds, foldC, foldK, rdC, rdB, refB, ownOf, elsB, wrH, wrB, wrE, wrL, shrinks, shr1, gcL, hl, hn]
theorem calls_ahead (m : Img) (fuel : Nat) (hi : Bool) (mc mc0 : Mc) (fn x : Int) (hl : mc.high.length ≤ 400000) : CallsV C (aF hi) ([.s (.int .i64 fn), .s (.int .i64 x)] ++ aC hi) [xM m fuel mc0 hi, hB hi mc] fun res h' => res = .ret (.tup []) ∧ h' = [xM m fuel mc0 hi, hB hi (upHigh mc x)] := by
  cases hi
  · show CallsV C 33 [.s (.int .i64 fn), .s (.int .i64 x)] [xM m fuel mc0 false, Blk.dead] _
    refine calls_of_run Tryz.func33 rfl (by kernel_rfl) (by kernel_rfl) (by simp) 1000 ?_
    simp +contextual (maxSteps := 2000000) (disch := ((try unfold LIM at *); omega)) only [↓bcT, ↓bcF, WA, simprocAttr, wrI]
    exact Up.refl ⟨rfl, rfl⟩
  · show CallsV C 29 [.s (.int .i64 fn), .s (.int .i64 x), .ptr 1 0 0] [xM m fuel mc0 true, ⟨[[.l 1 (mc.high.map iV)]], 1, 1, true⟩] _
    refine calls_of_run Tryz.func29 rfl (by kernel_rfl) (by kernel_rfl) (by simp) 1000 ?_
    simp +contextual (maxSteps := 2000000) (disch := ((try unfold LIM at *); omega)) only [↓bcT, ↓bcF, WA, simprocAttr, wrI, List.length_map]
    intro cap hc
    refine ⟨⟨by omega, by unfold LIM; omega⟩, fun cap' h1 _ => ?_⟩
    have hn : nrs (mc.high.map iV ++ [[V.s (.int .i64 x)]]) = true := by
      have := nrs_map iV_nr (mc.high ++ [x]); simpa [iV] using this
    refine Up.gcF (.tup []) [] [(1, 0, 0)] [0, 1] [xM m fuel mc0 true, hB true (upHigh mc x)] (by simp) rfl ?_ rfl ⟨rfl, rfl⟩
    rw [shrinks_nil]
    rw [fold_h (by simp) hn]
    exact ⟨.inr (by rw [rnB_x _ rfl]; rfl), .inl ⟨h_nr _ _, by simp [hB, upHigh, iV]⟩, trivial⟩
theorem pure_begun (hi : Bool) (fn : Int) : PureV C (bF hi) [.s (.int .i64 fn)] (.tup []) := by
  cases hi
  · show PureV C 34 _ _
    refine pure_of_run Tryz.func34 rfl (by kernel_rfl) (by kernel_rfl) (by simp) (fun _ => rfl) (fun _ => rfl) 6 1000 ?_
    simp +contextual (maxSteps := 2000000) (disch := ((try unfold LIM at *); omega)) only [↓bcT, ↓bcF, WA, simprocAttr, wrI]
  · show PureV C 30 _ _
    refine pure_of_run Tryz.func30 rfl (by kernel_rfl) (by kernel_rfl) (by simp) (fun _ => rfl) (fun _ => rfl) 6 1000 ?_
    simp +contextual (maxSteps := 2000000) (disch := ((try unfold LIM at *); omega)) only [↓bcT, ↓bcF, WA, simprocAttr, wrI]
theorem did73 (m : Img) (fuel : Nat) (hi : Bool) (fn : Int) (d : Nat) (fr : Fr) (mc : Mc) (x : Ins) (run : IFun → List Val → Mc → Did Val) (n : Nat) (hr : d < 30 → RunV m fuel hi (d + 1) n run) (hd : d ≤ 30) (hn : fuel - mc.steps ≤ n)
    (hf : FrOk fr) (hs : fr.slots.length ≤ 1000) (hm : McOk fuel mc) (hfu : fuel ≤ 400000) (hok : m.funs.all okF = true) (hml : m.funs.length ≤ 72) (hx : insB x = true) (h9 : x.op ≠ 9) :
    DidS C 73 [.ptr 0 0 0, .ptr 2 0 0, .agg (insV x)] m fuel hi fn d fr mc (doM run m.funs d x fr mc) := by
  obtain ⟨h1, h2, h3⟩ := insB_in hx
  obtain ⟨o, a⟩ := x
  simp only at h2 h3 h9
  by_cases o1 : o = 1
  · subst o1; exact did73_1 m fuel hi fn d fr mc a run hf
  by_cases o2 : o = 2
  · subst o2; exact did73_2 m fuel hi fn d fr mc a run hf
  obtain ⟨k, rfl, hk⟩ : ∃ k : Nat, a = k ∧ k ≤ 1000 := by
    rcases h1 with q | q | q
    · exact absurd q o1
    · exact absurd q o2
    · exact q
  have D5 : o = 5 → DidS C 103 [.ptr 0 0 0, .ptr 2 0 0, .s (.int .i64 k)] m fuel hi fn d fr mc (doM run m.funs d ⟨o, k⟩ fr mc) := fun q => by
    subst q; exact did103 m fuel hi fn d fr mc k hf hm hfu
  have D8 : o = 8 → DidS C 104 [.ptr 0 0 0, .ptr 2 0 0, .s (.int .i64 k)] m fuel hi fn d fr mc (doM run m.funs d ⟨o, k⟩ fr mc) := fun q => by
    subst q; exact did104 m fuel hi fn d fr mc k run n hr hd hn hf hm hok hml
  by_cases o3 : o = 3
  · subst o3; exact did73_3 m fuel hi fn d fr mc k run hf hs
  by_cases o4 : o = 4
  · subst o4; exact did73_4 m fuel hi fn d fr mc k run hf hs
  by_cases o5 : o = 5
  · exact did73_d m fuel hi fn d fr mc o k run D5 D8 (.inl o5)
  by_cases o6 : o = 6
  · subst o6; exact did73_6 m fuel hi fn d fr mc k run
  by_cases o7 : o = 7
  · subst o7; exact did73_7 m fuel hi fn d fr mc k run hf
  by_cases o8 : o = 8
  · exact did73_d m fuel hi fn d fr mc o k run D5 D8 (.inr o8)
  · have : o = 10 := by omega
    subst this; exact did73_10 m fuel hi fn d fr mc k run hf
end Go.Proofs.YtlhkfjannhhcbaaGreatDoor
/- part M16 -/
set_option linter.unusedVariables false
set_option linter.unusedSimpArgs false
set_option maxRecDepth 100000
namespace Go.Proofs.YtlhkfjannhhcbaaGreatDoor
open Go Go.W Go.RowKit
def runPost (m : Img) (fuel : Nat) (hi : Bool) (q : Did Val) (res : Res) (h' : H) : Prop := match runR m fuel hi q with
  | some p => res = .ret p.1 ∧ h' = p.2
  | none => res = .pan (stopV q) ∧ ∃ t, h' = [xM m fuel q.1 hi, hB hi q.1] ++ t
theorem up_run {m : Img} {fuel : Nat} {hi : Bool} {q : Did Val} {v : Val} {mc' : Mc} (r : H) (e : q = (mc', .ok v)) : Up 2 (runPost m fuel hi q) (.ret (.agg (valV v))) (xM m fuel mc' hi :: hB hi mc' :: r) := by
  subst e
  exact Up.gcF (.agg (valV v)) [] [] [0, 1] [xM m fuel mc' hi, hB hi mc'] (by simp) rfl ⟨.inr (by rw [rnB_x _ rfl]; rfl), .inl ⟨h_nr _ _, rfl⟩, trivial⟩ (by simp only [valV]; simp only [rnV, rnQ, List.map_cons, List.map_nil, rowV_rn]; rfl) ⟨rfl, rfl⟩
theorem pan_run {m : Img} {fuel : Nat} {hi : Bool} {q : Did Val} {e : Stop} {mc' : Mc} (r : H) (hq : q = (mc', .error e)) : Up 2 (runPost m fuel hi q) (.pan (endV e.1 e.2)) (xM m fuel mc' hi :: hB hi mc' :: r) := by
  subst hq
  exact Up.refl (r := .pan _) ⟨rfl, _, rfl⟩
section
variable {N n0 : Nat} {Q : QT} {k : List It} {τ : Tau} {h : H} {dst : Option Nat}
theorem CallThen.popF {fn : Int} {d : Nat} {fr : Fr} {kd : Int} {args' : List V} (fl : List (Nat × Nat × Nat)) (hF : H) (eF : folds h fl = hF) (i : Nat) (hi : hF[i]? = some (frB fn d fr)) (hl : fr.stack.length ≤ 100) (ha : args' = [.ptr i 0 0, .s (.int .i64 kd)]) (m : Nat)
    (hr : ∀ v st, popO fr.stack kd = some (v, st) → Run C N n0 m Q k (upo dst (.agg (valV v)) τ) (setAll hF [i] [frB fn d ⟨fr.pc, st, fr.slots⟩]))
    (hp : popO fr.stack kd = none → ∀ (B : Blk) (t : H), Q (.pan (endV 3 0)) τ (setAll hF [i] (B :: t))) : CallThen C N n0 Q 72 args' dst k τ h := by
  subst ha
  have D := did72 fn d fr kd hl
  have ev : ∀ (ρ : Nat → Nat) (v : Val), (valV v).map (rnC ρ) = valV v := fun ρ v => by simp only [valV, List.map_cons, List.map_nil, rowV_rn]; rfl
  refine CallThen.did D [] fl [i] hF eF (by simp) ⟨.inl ⟨fr_nr _ _ _, hi⟩, trivial⟩ rfl (fun _ => rfl) m (fun q hq => ?_) (fun hq t ht => ?_)
  · unfold popR at hq
    cases e : popO fr.stack kd with
    | none => rw [e] at hq; cases hq
    | some q =>
      obtain ⟨v, st⟩ := q
      rw [e] at hq; cases hq
      simp only [List.map_cons, List.map_nil, rnB_fr, rnV, rnQ, ev]; exact hr v st e
  · cases e : popO fr.stack kd with
    | none => cases t with
      | nil => exact absurd ht (by simp)
      | cons B t => exact hp e B t
    | some st => unfold popR at hq; rw [e] at hq; cases hq
end
theorem fold_st5 {els : List (List V)} {X Y A B : Blk} {x0 x1 x2 y : V} {len cap : Nat} (hl : els.length = len) (hn : nrs els = true) (r : H) :
    folds (X :: Y :: A :: B :: ⟨[[x0, x1, x2, .sl 5 0 len cap, y]], 5, 1, true⟩ :: ⟨els, 3, cap, true⟩ :: r) [(4, 0, 3)] = X :: Y :: A :: B :: ⟨[[x0, x1, x2, .l 3 els, y]], 5, 1, true⟩ :: Blk.dead :: r := by
  simp [folds, foldC, foldK, rdC, rdB, refB, ownOf, elsB, wrH, wrB, wrE, wrL, shrinks, shr1, gcL, hl, hn]
theorem fold_run {els : List (List V)} {X Y A B E F : Blk} {x0 x1 x2 : V} {len cap : Nat} (hl : els.length = len) (hn : nrs els = true) :
    folds [X, Y, A, B, E, F, ⟨els, 3, cap, true⟩, ⟨[[x0, x1, x2, .sl 8 0 0 0, .sl 6 0 len cap]], 5, 1, true⟩, ⟨[], 3, 0, true⟩] [(7, 0, 3), (7, 0, 4)] = [X, Y, A, B, E, F, Blk.dead, ⟨[[x0, x1, x2, .l 3 [], .l 3 els]], 5, 1, true⟩, Blk.dead] := by
  have n0 : nrs [] = true := rfl
  simp [folds, foldC, foldK, rdC, rdB, refB, ownOf, elsB, wrH, wrB, wrE, wrL, shrinks, shr1, gcL, n0, hl, hn]
theorem did49 (m : Img) (fuel : Nat) (hi : Bool) (hfu : fuel ≤ 400000) (hok : m.funs.all okF = true) (hml : m.funs.length ≤ 72) : ∀ n d : Nat, d ≤ 30 → RunV m fuel hi d n (enterM (loopM m.funs fuel n d)) := by
  intro n
  induction n using Nat.strongRecOn with
  | _ n ih =>
  intro d hd g f vs mc hg hvs hvl hm hn
  show CallsV C 49 _ _ (runPost m fuel hi (enterM (loopM m.funs fuel n d) f vs mc))
  refine calls_of_run Tryz.func49 rfl (by kernel_rfl) (by kernel_rfl) (by simp) 1000 ?_
  have hof := List.all_eq_true.1 hok f (List.mem_of_getElem? hg)
  obtain ⟨ft, fs0, fs1, fc, fa, fi⟩ := okF_facts hof
  obtain ⟨z, hz⟩ : ∃ z : Nat, f.slots = z := ⟨f.slots.toNat, by omega⟩
  have gl : g < m.funs.length := (List.getElem?_eq_some_iff.1 hg).1
  have p0 : (0 : Int) ≤ g := by omega
  have p1 : (g : Int) < m.funs.length := by omega
  have hgv : (m.funs.map fnV)[g]? = some (fnV f) := by rw [List.getElem?_map, hg]; rfl
  simp only [fnV] at hgv
  by_cases c1 : z < vs.length
  · have e : enterM (loopM m.funs fuel n d) f vs mc = wrongM mc := by unfold enterM; rw [if_pos (by omega)]
    rw [e]
    have c1' : (z : Int) < vs.length := by omega
    simp +contextual (maxSteps := 2000000) (disch := ((try unfold LIM at *); omega)) only [↓bcT, ↓bcF, WA, simprocAttr, wrI, xM, xB, List.length_map, p0, p1, hgv, hz, c1']
    intros
    refine CallThen.wrong fun t => ?_
    exact panQ ⟨rfl, _, rfl⟩
  · have c1' : ¬ (z : Int) < vs.length := by omega
    obtain ⟨y, hy⟩ : ∃ y : Nat, z = vs.length + y := ⟨z - vs.length, by omega⟩
    have hy' : (z : Int) - vs.length = y := by omega
    have b4 : (0 : Int) ≤ y := by omega
    have b5 : (40 : Int) * y ≤ 140737488355328 := by omega
    have b6 : (y : Int) ≤ 4611686018427387904 := by omega
    have b8 : (-9223372036854775808 : Int) ≤ y := by omega
    have b9 : (y : Int) ≤ 9223372036854775807 := by omega
    simp +contextual (maxSteps := 2000000) (disch := ((try unfold LIM at *); omega)) only [↓bcT, ↓bcF, WA, simprocAttr, wrI, xM, xB, List.length_map, p0, p1, hgv, hz, c1', bV]
    intros
    refine CallThen.pure (pure_begun hi g) 1000 ?_
    simp +contextual (maxSteps := 2000000) (disch := ((try unfold LIM at *); omega)) only [↓bcT, ↓bcF, WA, simprocAttr, wrI, List.length_map, hy', b4, b5, b6, b8, b9, Int.le_refl]
    intro _
    have hz0 : (List.replicate y zeroE).map valV = List.replicate y [V.s (.int .i64 0), .s (.int .i64 0), .z] := by rw [List.map_replicate]; rfl
    refine CallThen.top 4 (by simp) (by simp) 6 (args' := [.f 1 [[.f 3 (vs.map valV)], [.f 3 ((List.replicate y zeroE).map valV)]]]) ⟨.inr ?_, trivial⟩ ?_
    · simp +contextual (maxSteps := 2000000) (disch := ((try unfold LIM at *); omega)) only [↓bcT, ↓bcF, WA, simprocAttr, wrI, hz0, List.length_replicate, valV_frz, Nat.le_refl, List.take_replicate, Nat.min_self, List.map_replicate]
      try rfl
    refine CallThen.new (new71 vs (List.replicate y zeroE) (by omega) (by simp; omega)) (nrs_map valV_nr _) (fun ρ => ?_) 1000 fun cap hc => ?_
    · show [V.f 1 _] = [V.f 1 _]
      rfl
    simp +contextual (maxSteps := 2000000) (disch := ((try unfold LIM at *); omega)) only [↓bcT, ↓bcF, WA, simprocAttr, wrI, killFrom_eq, List.length_map]
    have hb : enterM (loopM m.funs fuel n d) f vs mc = loopM m.funs fuel n d f ⟨0, [], vs ++ List.replicate y zeroE⟩ mc := by
      unfold enterM beginM
      rw [if_neg (by omega), show (f.slots - (vs.length : Int)).toNat = y by omega]
    rw [hb]
    have hsl : (vs ++ List.replicate y zeroE).length ≤ 1000 := by simp; omega
    have hso : ∀ v ∈ vs ++ List.replicate y zeroE, VOk v := fun v q => by
      rcases List.mem_append.1 q with q | q
      · exact hvs v q
      · rw [List.eq_of_mem_replicate q]; exact VOk_zero
    refine LoopThen.arr (Arr.nilCell (b := 7) (m := 3) (els' := [[.s (.int .i64 g), .s (.int .i64 0), .s (.int .i64 d), .sl 8 0 0 0, .sl 6 0 (vs ++ List.replicate y zeroE).length cap]]) rfl ⟨⟨.inl rfl, .inl rfl, .inl rfl, .inr ⟨rfl, rfl⟩, .inl rfl, trivial⟩, trivial⟩) (fun _ => rfl) ?_
    simp +contextual (maxSteps := 2000000) (disch := ((try unfold LIM at *); omega)) only [↓bcT, ↓bcF, WA, simprocAttr, wrI]
    generalize vs ++ List.replicate y zeroE = sl at *
    generalize hR : loopM m.funs fuel n d f ⟨0, [], sl⟩ mc = R at *
    refine LoopThen.ownF 2 (ι := Nat × Fr × Mc) (fun s => s.1 ≤ n ∧ fuel - s.2.2.steps ≤ s.1 ∧ loopM m.funs fuel s.1 d f s.2.1 s.2.2 = R ∧ FrOk s.2.1 ∧ McOk fuel s.2.2 ∧ s.2.1.slots.length ≤ 1000)
      (fun s => [(0, .ptr 0 0 0), (1, .s (.int .i64 g)), (8, .ptr 2 0 0), (9, .ptr 3 0 0), (10, .ptr 4 0 0)])
      (fun s => [xM m fuel s.2.2 hi, hB hi s.2.2, ⟨[[.s (.int .i64 0), .s (.int .i64 0), .z]], 3, 1, true⟩, ⟨[fnV f], 6, 1, true⟩, frB g d s.2.1]) (fun s => s.1) 1000 1000
      ⟨(n, ⟨0, [], sl⟩, mc), ⟨Nat.le_refl _, hn, hR, ⟨by simp, fun v q => by simp at q, hso⟩, hm, hsl⟩, [(7, 0, 3), (7, 0, 4)], [0, 1, 2, 3, 7], ⟨by simp, rfl⟩, ?_, by simp +contextual (maxSteps := 2000000) (disch := ((try unfold LIM at *); omega)) only [↓bcT, ↓bcF, WA, simprocAttr, wrI, folds_length]⟩ ?_
    · rw [fold_run (by simp) (nrs_map valV_nr sl)]
      exact ⟨.inr (by rw [rnB_x _ rfl]; rfl), .inl ⟨h_nr _ _, rfl⟩, .inl ⟨rfl, rfl⟩, .inl ⟨rfl, by simp only [fnV, hz]; rfl⟩, .inl ⟨fr_nr _ _ _, rfl⟩, trivial⟩
    · rintro ⟨k, fr, mc⟩ ⟨q1, q2, q3, q4, q5, q6⟩
      simp only at q1 q2 q3 q4 q5 q6
      cases hcx : f.code[fr.pc]? with
      | none =>
        have c5 : (f.code.length : Int) ≤ fr.pc := by have := List.getElem?_eq_none_iff.1 hcx; omega
        have hw : R = wrongM mc := by rw [← q3]; cases k <;> simp only [loopM, hcx]
        simp +contextual (maxSteps := 2000000) (disch := ((try unfold LIM at *); omega)) only [↓bcT, ↓bcF, WA, simprocAttr, wrI, frB, fnV]
        refine DrawThen.of 1000 [] (.old 0 (.old 1 (.old 2 (.old 3 (.old 4 (.old 5 (.old 6 (.old 7 .done)))))))) (panFree_loopN (panFree_body _ _)) (by kernel_rfl) (by kernel_rfl) (by kernel_rfl) ?_
        simp +contextual (maxSteps := 2000000) (disch := ((try unfold LIM at *); omega)) only [↓bcT, ↓bcF, WA, simprocAttr, wrI, frB, fnV, List.length_map, c5]
        intros
        refine CallThen.wrong fun t => ?_
        simp +contextual (maxSteps := 2000000) (disch := ((try unfold LIM at *); omega)) only [↓bcT, ↓bcF, WA, simprocAttr, wrI]
        exact pan_run (e := (3, 0)) _ hw
      | some x =>
        have c5 : ¬ (f.code.length : Int) ≤ fr.pc := by have := (List.getElem?_eq_some_iff.1 hcx).1; omega
        simp +contextual (maxSteps := 2000000) (disch := ((try unfold LIM at *); omega)) only [↓bcT, ↓bcF, WA, simprocAttr, wrI, frB, fnV]
        refine DrawThen.of 1000 [] (.old 0 (.old 1 (.old 2 (.old 3 (.old 4 (.old 5 (.old 6 (.old 7 .done)))))))) (panFree_loopN (panFree_body _ _)) (by kernel_rfl) (by kernel_rfl) (by kernel_rfl) ?_
        simp +contextual (maxSteps := 2000000) (disch := ((try unfold LIM at *); omega)) only [↓bcT, ↓bcF, WA, simprocAttr, wrI, frB, fnV, List.length_map, c5]
        intros
        by_cases c6 : mc.steps = fuel
        · have c6' : (mc.steps : Int) = fuel := by omega
          have hw : R = (mc, .error (0, 0)) := by
            rw [← q3]
            cases k with
            | zero => simp only [loopM, hcx]
            | succ k => simp only [loopM, hcx, c6, if_true]
          refine DrawThen.of 1000 [] (.old 0 (.old 1 (.old 2 (.old 3 (.old 4 (.old 5 (.old 6 (.old 7 (.old 8 .done))))))))) (panFree_loopN (panFree_body _ _)) (by kernel_rfl) (by kernel_rfl) (by kernel_rfl) ?_
          simp +contextual (maxSteps := 2000000) (disch := ((try unfold LIM at *); omega)) only [↓bcT, ↓bcF, WA, simprocAttr, wrI, xM, xB, c6', conc82]
          obtain ⟨ss, oo, hh⟩ := mc
          simp only at c6
          subst c6
          exact pan_run (e := (0, 0)) (mc' := ⟨ss, oo, hh⟩) _ hw
        · have c6' : ¬ (mc.steps : Int) = fuel := by omega
          refine DrawThen.of 1000 [] (.old 0 (.old 1 (.old 2 (.old 3 (.old 4 (.old 5 (.old 6 (.old 7 (.old 8 .done))))))))) (panFree_loopN (panFree_body _ _)) (by kernel_rfl) (by kernel_rfl) (by kernel_rfl) ?_
          simp +contextual (maxSteps := 2000000) (disch := ((try unfold LIM at *); omega)) only [↓bcT, ↓bcF, WA, simprocAttr, wrI, xM, xB, c6', aV]
          have q5a : mc.steps ≤ 400000 := by have := q5.1; omega
          have A := calls_ahead m fuel hi mc mc g fr.stack.length (by have := q5.2.2; have := q5.1; omega)
          refine DrawThen.of 1000 [0, 1, 4] (.old 0 (.old 1 (.old 2 (.old 4 (.old 5 (.old 6 (.old 7 (.or 3 (.go 8 (.new 9 (.go 10 .done))) (.go 8 (.new 9 (.go 3 (.go 10 .done)))))))))))) (panFree_loopN (panFree_body _ _)) (by kernel_rfl) (by kernel_rfl) (by kernel_rfl) ?_
          simp +contextual (maxSteps := 2000000) (disch := ((try unfold LIM at *); omega)) only [↓bcT, ↓bcF, WA, simprocAttr, wrI, List.length_map, frB, WB9]
          refine ⟨?_, ?_⟩
          · intro cap hc
            refine DCall.of 1000 .done (by kernel_rfl) (CallsV.frameL A [0, 1] _ (by simp) ⟨.inr (by rw [rnB_x _ rfl]; rfl), .inl ⟨h_nr _ _, rfl⟩, trivial⟩ (by cases hi <;> rfl)) fun res h' ⟨r, h1, ⟨e1, e2⟩, e3, e4, e5⟩ => ?_
            subst e1; subst e2; subst e4; subst e5
            show RunD _ _ _ _ _ _ _ _ _ _ _ _ _ _ (show_ _ _ _ (setAll _ _ [rnB (emb [0, 1] 6) (xM m fuel mc hi), rnB (emb [0, 1] 6) (hB hi (upHigh mc fr.stack.length))]))
            rw [rnB_x _ rfl, rnB_h]
            simp +contextual (maxSteps := 2000000) (disch := ((try unfold LIM at *); omega)) only [↓bcT, ↓bcF, WA, simprocAttr, wrI, rnRes, xM, xB, List.length_map, cast_succ]
            try simp +contextual (maxSteps := 2000000) (disch := ((try unfold LIM at *); omega)) only [↓bcT, ↓bcF, WA, simprocAttr, wrI, List.length_map, frB, WB9]
            obtain ⟨k', rfl⟩ : ∃ k', k = k' + 1 := ⟨k - 1, by have := q5.1; omega⟩
            have pl : fr.pc < f.code.length := (List.getElem?_eq_some_iff.1 hcx).1
            have hxv : (f.code.map insV)[fr.pc]? = some (insV x) := by rw [List.getElem?_map, hcx]; rfl
            have hxb : insB x = true := List.all_eq_true.1 fi x (List.mem_of_getElem? hcx)
            have d0 : (0 : Int) ≤ fr.pc := by omega
            have d1 : (fr.pc : Int) < f.code.length := by omega
            have d2 : ((fr.pc + 1 : Nat) : Int) - 1 = fr.pc := by omega
            simp only [insV] at hxv
            have hl3 : mc.high.length = mc.steps := q5.2.2
            have eR : R = if x.op = 9 then backM f.typ fr.stack ⟨mc.steps + 1, mc.out, mc.high ++ [(fr.stack.length : Int)]⟩ else match doM (enterM (loopM m.funs fuel k' (d + 1))) m.funs d x ⟨fr.pc + 1, fr.stack, fr.slots⟩ ⟨mc.steps + 1, mc.out, mc.high ++ [(fr.stack.length : Int)]⟩ with
                | (mc', .error e) => (mc', .error e)
                | (mc', .ok fr') => loopM m.funs fuel k' d f fr' mc' := by
              rw [← q3]; simp only [loopM, hcx, c6, if_false]; rfl
            refine DrawThen.of 1000 [] (.old 0 (.old 1 (.old 2 (.old 3 (.old 4 (.old 5 (.old 6 (.old 7 (.old 8 (.go 9 (.go 10 .done))))))))))) (panFree_loopN (panFree_body _ _)) (by kernel_rfl) (by kernel_rfl) (by kernel_rfl) ?_
            have m1 : McOk fuel ⟨mc.steps + 1, mc.out, mc.high ++ [(fr.stack.length : Int)]⟩ := ⟨by have := q5.1; dsimp only; omega, by have := q5.2.1; dsimp only; omega, by simp only [List.length_append, List.length_cons, List.length_nil]; omega⟩
            have eF := fun (A B : Blk) r => fold_st5 (X := xM m fuel ⟨mc.steps + 1, mc.out, mc.high ++ [(fr.stack.length : Int)]⟩ hi) (Y := hB hi ⟨mc.steps + 1, mc.out, mc.high ++ [(fr.stack.length : Int)]⟩) (A := A) (B := B) (els := fr.stack.map valV) (x0 := .s (.int .i64 g)) (x1 := .s (.int .i64 ((fr.pc + 1 : Nat) : Int))) (x2 := .s (.int .i64 d)) (y := .l 3 (fr.slots.map valV)) (len := fr.stack.length) (cap := cap) (by simp) (nrs_map valV_nr _) r
            by_cases c9 : x.op = 9
            · rw [if_pos c9] at eR
              have ft0 := typ_nz ft
              have eb : backM f.typ fr.stack ⟨mc.steps + 1, mc.out, mc.high ++ [(fr.stack.length : Int)]⟩ = match popO fr.stack f.typ with
                  | none => wrongM ⟨mc.steps + 1, mc.out, mc.high ++ [(fr.stack.length : Int)]⟩
                  | some (v, r) => if r = [] then (⟨mc.steps + 1, mc.out, mc.high ++ [(fr.stack.length : Int)]⟩, .ok v) else wrongM ⟨mc.steps + 1, mc.out, mc.high ++ [(fr.stack.length : Int)]⟩ := by
                unfold backM; rw [popO_two ft0]
                cases popO fr.stack f.typ with
                | none => rfl
                | some q => rfl
              rw [eb] at eR
              simp +contextual (maxSteps := 2000000) (disch := ((try unfold LIM at *); omega)) only [↓bcT, ↓bcF, WA, simprocAttr, wrI, List.length_map, d0, d1, d2, hxv, c9]
              refine CallThen.popF (fn := g) (d := d) (fr := ⟨fr.pc + 1, fr.stack, fr.slots⟩) (kd := f.typ) [(4, 0, 3)] _ (eF _ _ _) 4 rfl q4.1 rfl 1000 (fun v st hq => ?_) (fun hq B t => ?_)
              · simp only at hq
                rw [hq] at eR
                simp only at eR
                have hst : st.length ≤ 100 := by
                  have := q4.1
                  unfold popO at hq
                  rcases List.eq_nil_or_concat fr.stack with h | ⟨l, u, h⟩
                  · rw [h] at hq; cases hq
                  · rw [h] at hq this; simp at hq this; rw [← hq.2.2]; omega
                by_cases c10 : st = []
                · subst c10
                  rw [if_pos rfl] at eR
                  simp +contextual (maxSteps := 2000000) (disch := ((try unfold LIM at *); omega)) only [↓bcT, ↓bcF, WA, simprocAttr, wrI, valV, frB, rowV_cellOk, rowV_nr, rowV_rn, List.length_nil, List.map_nil]
                  intro cap2 _
                  exact up_run (v := v) _ eR
                · rw [if_neg c10] at eR
                  have c10' : (0 : Int) < st.length := by have := List.length_pos_iff.2 c10; omega
                  simp +contextual (maxSteps := 2000000) (disch := ((try unfold LIM at *); omega)) only [↓bcT, ↓bcF, WA, simprocAttr, wrI, valV, frB, rowV_cellOk, rowV_nr, rowV_rn, List.length_map, c10']
                  intro cap2 _
                  refine CallThen.wrong fun t => ?_
                  simp +contextual (maxSteps := 2000000) (disch := ((try unfold LIM at *); omega)) only [↓bcT, ↓bcF, WA, simprocAttr, wrI]
                  exact pan_run (e := (3, 0)) _ eR
              · simp only at hq
                rw [hq] at eR
                simp +contextual (maxSteps := 2000000) (disch := ((try unfold LIM at *); omega)) only [↓bcT, ↓bcF, WA, simprocAttr, wrI]
                exact pan_run (e := (3, 0)) _ eR
            · rw [if_neg c9] at eR
              have D := did73 m fuel hi g d ⟨fr.pc + 1, fr.stack, fr.slots⟩ ⟨mc.steps + 1, mc.out, mc.high ++ [(fr.stack.length : Int)]⟩ x (enterM (loopM m.funs fuel k' (d + 1))) k' (fun hd30 => ih k' (by omega) (d + 1) (by omega)) hd (by show fuel - (mc.steps + 1) ≤ k'; omega) q4 q6 m1 hfu hok hml hxb c9
              unfold DidS at D
              have ok := doM_ok (fs := m.funs) (d := d) (x := x) (fr := ⟨fr.pc + 1, fr.stack, fr.slots⟩) (enterM_ok (fun g fr mc => loopM_ok m.funs fuel k' (d + 1) g fr mc)) q4 m1 (by have := q5.2.1; dsimp only; omega)
              simp +contextual (maxSteps := 2000000) (disch := ((try unfold LIM at *); omega)) only [↓bcT, ↓bcF, WA, simprocAttr, wrI, List.length_map, d0, d1, d2, hxv, c9]
              rcases hq : doM (enterM (loopM m.funs fuel k' (d + 1))) m.funs d x ⟨fr.pc + 1, fr.stack, fr.slots⟩ ⟨mc.steps + 1, mc.out, mc.high ++ [(fr.stack.length : Int)]⟩ with ⟨mc', e | fr'⟩
              · rw [hq] at D eR
                refine CallThen.did D [] [(4, 0, 3)] [0, 1, 4] _ (eF _ _ _) (by simp) ⟨.inr (by rw [rnB_x _ rfl]; rfl), .inl ⟨h_nr _ _, rfl⟩, .inl ⟨fr_nr _ _ _, rfl⟩, trivial⟩ rfl (stopV_rn _) 1000 (fun q hq => by cases hq) (fun _ t ht => ?_)
                cases t with
                | nil => exact absurd ht (by simp)
                | cons B t =>
                  show loopN _ _ _ _ _ _ _ (.pan (stopV ((mc', .error e) : Did Fr))) _ (setAll _ _ ([rnB (emb [0, 1, 4] 7) (xM m fuel mc' hi), rnB (emb [0, 1, 4] 7) (hB hi mc')] ++ B :: t))
                  rw [rnB_x _ rfl, rnB_h]
                  have es : stopV ((mc', .error e) : Did Fr) = endV e.1 e.2 := rfl
                  rw [es]
                  simp +contextual (maxSteps := 2000000) (disch := ((try unfold LIM at *); omega)) only [↓bcT, ↓bcF, WA, simprocAttr, wrI]
                  exact pan_run (e := e) _ eR
              · rw [hq] at D eR ok
                refine CallThen.did D [] [(4, 0, 3)] [0, 1, 4] _ (eF _ _ _) (by simp) ⟨.inr (by rw [rnB_x _ rfl]; rfl), .inl ⟨h_nr _ _, rfl⟩, .inl ⟨fr_nr _ _ _, rfl⟩, trivial⟩ rfl (stopV_rn _) 1000 (fun q hq => ?_) (fun hq t ht => by cases hq)
                cases hq
                show Run _ _ _ _ _ _ _ (setAll _ _ [rnB (emb [0, 1, 4] 7) (xM m fuel mc' hi), rnB (emb [0, 1, 4] 7) (hB hi mc'), rnB (emb [0, 1, 4] 7) (frB g d fr')])
                rw [rnB_x _ rfl, rnB_h, rnB_fr]
                obtain ⟨k1, k2, k3⟩ := ok
                obtain ⟨k4, k5⟩ := k3 fr' rfl
                simp only at k1 k2 k5
                simp +contextual (maxSteps := 2000000) (disch := ((try unfold LIM at *); omega)) only [↓bcT, ↓bcF, WA, simprocAttr, wrI, WB9]
                refine ⟨(k', fr', mc'), ⟨⟨by simp only; omega, by simp only; omega, eR.symm, k4, k1, by simp only; omega⟩, by simp only; omega⟩, [], [0, 1, 2, 3, 4], ⟨by simp, rfl⟩, ⟨.inr (show _ = some (rnB (nm [0, 1, 2, 3, 4] 7) (xM m fuel mc' hi)) from by rw [rnB_x _ rfl]; rfl), .inl ⟨h_nr _ _, rfl⟩, .inl ⟨rfl, rfl⟩, .inl ⟨rfl, rfl⟩, .inl ⟨fr_nr _ _ _, rfl⟩, trivial⟩, by simp +contextual (maxSteps := 2000000) (disch := ((try unfold LIM at *); omega)) only [↓bcT, ↓bcF, WA, simprocAttr, wrI]⟩
          · intro cap hc
            refine DCall.of 1000 .done (by kernel_rfl) (CallsV.frameL A [0, 1] _ (by simp) ⟨.inr (by rw [rnB_x _ rfl]; rfl), .inl ⟨h_nr _ _, rfl⟩, trivial⟩ (by cases hi <;> rfl)) fun res h' ⟨r, h1, ⟨e1, e2⟩, e3, e4, e5⟩ => ?_
            subst e1; subst e2; subst e4; subst e5
            show RunD _ _ _ _ _ _ _ _ _ _ _ _ _ _ (show_ _ _ _ (setAll _ _ [rnB (emb [0, 1] 6) (xM m fuel mc hi), rnB (emb [0, 1] 6) (hB hi (upHigh mc fr.stack.length))]))
            rw [rnB_x _ rfl, rnB_h]
            simp +contextual (maxSteps := 2000000) (disch := ((try unfold LIM at *); omega)) only [↓bcT, ↓bcF, WA, simprocAttr, wrI, rnRes, xM, xB, List.length_map, cast_succ]
            try simp +contextual (maxSteps := 2000000) (disch := ((try unfold LIM at *); omega)) only [↓bcT, ↓bcF, WA, simprocAttr, wrI, List.length_map, frB, WB9]
            obtain ⟨k', rfl⟩ : ∃ k', k = k' + 1 := ⟨k - 1, by have := q5.1; omega⟩
            have pl : fr.pc < f.code.length := (List.getElem?_eq_some_iff.1 hcx).1
            have hxv : (f.code.map insV)[fr.pc]? = some (insV x) := by rw [List.getElem?_map, hcx]; rfl
            have hxb : insB x = true := List.all_eq_true.1 fi x (List.mem_of_getElem? hcx)
            have d0 : (0 : Int) ≤ fr.pc := by omega
            have d1 : (fr.pc : Int) < f.code.length := by omega
            have d2 : ((fr.pc + 1 : Nat) : Int) - 1 = fr.pc := by omega
            simp only [insV] at hxv
            have hl3 : mc.high.length = mc.steps := q5.2.2
            have eR : R = if x.op = 9 then backM f.typ fr.stack ⟨mc.steps + 1, mc.out, mc.high ++ [(fr.stack.length : Int)]⟩ else match doM (enterM (loopM m.funs fuel k' (d + 1))) m.funs d x ⟨fr.pc + 1, fr.stack, fr.slots⟩ ⟨mc.steps + 1, mc.out, mc.high ++ [(fr.stack.length : Int)]⟩ with
                | (mc', .error e) => (mc', .error e)
                | (mc', .ok fr') => loopM m.funs fuel k' d f fr' mc' := by
              rw [← q3]; simp only [loopM, hcx, c6, if_false]; rfl
            refine DrawThen.of 1000 [] (.old 0 (.old 1 (.old 2 (.old 3 (.old 4 (.old 5 (.old 6 (.old 7 (.old 8 (.go 9 (.go 10 .done))))))))))) (panFree_loopN (panFree_body _ _)) (by kernel_rfl) (by kernel_rfl) (by kernel_rfl) ?_
            have m1 : McOk fuel ⟨mc.steps + 1, mc.out, mc.high ++ [(fr.stack.length : Int)]⟩ := ⟨by have := q5.1; dsimp only; omega, by have := q5.2.1; dsimp only; omega, by simp only [List.length_append, List.length_cons, List.length_nil]; omega⟩
            have eF := fun (A B : Blk) r => fold_st5 (X := xM m fuel ⟨mc.steps + 1, mc.out, mc.high ++ [(fr.stack.length : Int)]⟩ hi) (Y := hB hi ⟨mc.steps + 1, mc.out, mc.high ++ [(fr.stack.length : Int)]⟩) (A := A) (B := B) (els := fr.stack.map valV) (x0 := .s (.int .i64 g)) (x1 := .s (.int .i64 ((fr.pc + 1 : Nat) : Int))) (x2 := .s (.int .i64 d)) (y := .l 3 (fr.slots.map valV)) (len := fr.stack.length) (cap := cap) (by simp) (nrs_map valV_nr _) r
            by_cases c9 : x.op = 9
            · rw [if_pos c9] at eR
              have ft0 := typ_nz ft
              have eb : backM f.typ fr.stack ⟨mc.steps + 1, mc.out, mc.high ++ [(fr.stack.length : Int)]⟩ = match popO fr.stack f.typ with
                  | none => wrongM ⟨mc.steps + 1, mc.out, mc.high ++ [(fr.stack.length : Int)]⟩
                  | some (v, r) => if r = [] then (⟨mc.steps + 1, mc.out, mc.high ++ [(fr.stack.length : Int)]⟩, .ok v) else wrongM ⟨mc.steps + 1, mc.out, mc.high ++ [(fr.stack.length : Int)]⟩ := by
                unfold backM; rw [popO_two ft0]
                cases popO fr.stack f.typ with
                | none => rfl
                | some q => rfl
              rw [eb] at eR
              simp +contextual (maxSteps := 2000000) (disch := ((try unfold LIM at *); omega)) only [↓bcT, ↓bcF, WA, simprocAttr, wrI, List.length_map, d0, d1, d2, hxv, c9]
              refine CallThen.popF (fn := g) (d := d) (fr := ⟨fr.pc + 1, fr.stack, fr.slots⟩) (kd := f.typ) [(4, 0, 3)] _ (eF _ _ _) 4 rfl q4.1 rfl 1000 (fun v st hq => ?_) (fun hq B t => ?_)
              · simp only at hq
                rw [hq] at eR
                simp only at eR
                have hst : st.length ≤ 100 := by
                  have := q4.1
                  unfold popO at hq
                  rcases List.eq_nil_or_concat fr.stack with h | ⟨l, u, h⟩
                  · rw [h] at hq; cases hq
                  · rw [h] at hq this; simp at hq this; rw [← hq.2.2]; omega
                by_cases c10 : st = []
                · subst c10
                  rw [if_pos rfl] at eR
                  simp +contextual (maxSteps := 2000000) (disch := ((try unfold LIM at *); omega)) only [↓bcT, ↓bcF, WA, simprocAttr, wrI, valV, frB, rowV_cellOk, rowV_nr, rowV_rn, List.length_nil, List.map_nil]
                  intro cap2 _
                  exact up_run (v := v) _ eR
                · rw [if_neg c10] at eR
                  have c10' : (0 : Int) < st.length := by have := List.length_pos_iff.2 c10; omega
                  simp +contextual (maxSteps := 2000000) (disch := ((try unfold LIM at *); omega)) only [↓bcT, ↓bcF, WA, simprocAttr, wrI, valV, frB, rowV_cellOk, rowV_nr, rowV_rn, List.length_map, c10']
                  intro cap2 _
                  refine CallThen.wrong fun t => ?_
                  simp +contextual (maxSteps := 2000000) (disch := ((try unfold LIM at *); omega)) only [↓bcT, ↓bcF, WA, simprocAttr, wrI]
                  exact pan_run (e := (3, 0)) _ eR
              · simp only at hq
                rw [hq] at eR
                simp +contextual (maxSteps := 2000000) (disch := ((try unfold LIM at *); omega)) only [↓bcT, ↓bcF, WA, simprocAttr, wrI]
                exact pan_run (e := (3, 0)) _ eR
            · rw [if_neg c9] at eR
              have D := did73 m fuel hi g d ⟨fr.pc + 1, fr.stack, fr.slots⟩ ⟨mc.steps + 1, mc.out, mc.high ++ [(fr.stack.length : Int)]⟩ x (enterM (loopM m.funs fuel k' (d + 1))) k' (fun hd30 => ih k' (by omega) (d + 1) (by omega)) hd (by show fuel - (mc.steps + 1) ≤ k'; omega) q4 q6 m1 hfu hok hml hxb c9
              unfold DidS at D
              have ok := doM_ok (fs := m.funs) (d := d) (x := x) (fr := ⟨fr.pc + 1, fr.stack, fr.slots⟩) (enterM_ok (fun g fr mc => loopM_ok m.funs fuel k' (d + 1) g fr mc)) q4 m1 (by have := q5.2.1; dsimp only; omega)
              simp +contextual (maxSteps := 2000000) (disch := ((try unfold LIM at *); omega)) only [↓bcT, ↓bcF, WA, simprocAttr, wrI, List.length_map, d0, d1, d2, hxv, c9]
              rcases hq : doM (enterM (loopM m.funs fuel k' (d + 1))) m.funs d x ⟨fr.pc + 1, fr.stack, fr.slots⟩ ⟨mc.steps + 1, mc.out, mc.high ++ [(fr.stack.length : Int)]⟩ with ⟨mc', e | fr'⟩
              · rw [hq] at D eR
                refine CallThen.did D [] [(4, 0, 3)] [0, 1, 4] _ (eF _ _ _) (by simp) ⟨.inr (by rw [rnB_x _ rfl]; rfl), .inl ⟨h_nr _ _, rfl⟩, .inl ⟨fr_nr _ _ _, rfl⟩, trivial⟩ rfl (stopV_rn _) 1000 (fun q hq => by cases hq) (fun _ t ht => ?_)
                cases t with
                | nil => exact absurd ht (by simp)
                | cons B t =>
                  show loopN _ _ _ _ _ _ _ (.pan (stopV ((mc', .error e) : Did Fr))) _ (setAll _ _ ([rnB (emb [0, 1, 4] 7) (xM m fuel mc' hi), rnB (emb [0, 1, 4] 7) (hB hi mc')] ++ B :: t))
                  rw [rnB_x _ rfl, rnB_h]
                  have es : stopV ((mc', .error e) : Did Fr) = endV e.1 e.2 := rfl
                  rw [es]
                  simp +contextual (maxSteps := 2000000) (disch := ((try unfold LIM at *); omega)) only [↓bcT, ↓bcF, WA, simprocAttr, wrI]
                  exact pan_run (e := e) _ eR
              · rw [hq] at D eR ok
                refine CallThen.did D [] [(4, 0, 3)] [0, 1, 4] _ (eF _ _ _) (by simp) ⟨.inr (by rw [rnB_x _ rfl]; rfl), .inl ⟨h_nr _ _, rfl⟩, .inl ⟨fr_nr _ _ _, rfl⟩, trivial⟩ rfl (stopV_rn _) 1000 (fun q hq => ?_) (fun hq t ht => by cases hq)
                cases hq
                show Run _ _ _ _ _ _ _ (setAll _ _ [rnB (emb [0, 1, 4] 7) (xM m fuel mc' hi), rnB (emb [0, 1, 4] 7) (hB hi mc'), rnB (emb [0, 1, 4] 7) (frB g d fr')])
                rw [rnB_x _ rfl, rnB_h, rnB_fr]
                obtain ⟨k1, k2, k3⟩ := ok
                obtain ⟨k4, k5⟩ := k3 fr' rfl
                simp only at k1 k2 k5
                simp +contextual (maxSteps := 2000000) (disch := ((try unfold LIM at *); omega)) only [↓bcT, ↓bcF, WA, simprocAttr, wrI, WB9]
                refine ⟨(k', fr', mc'), ⟨⟨by simp only; omega, by simp only; omega, eR.symm, k4, k1, by simp only; omega⟩, by simp only; omega⟩, [], [0, 1, 2, 3, 4], ⟨by simp, rfl⟩, ⟨.inr (show _ = some (rnB (nm [0, 1, 2, 3, 4] 7) (xM m fuel mc' hi)) from by rw [rnB_x _ rfl]; rfl), .inl ⟨h_nr _ _, rfl⟩, .inl ⟨rfl, rfl⟩, .inl ⟨rfl, rfl⟩, .inl ⟨fr_nr _ _ _, rfl⟩, trivial⟩, by simp +contextual (maxSteps := 2000000) (disch := ((try unfold LIM at *); omega)) only [↓bcT, ↓bcF, WA, simprocAttr, wrI]⟩
end Go.Proofs.YtlhkfjannhhcbaaGreatDoor
/- part M17 -/
set_option linter.unusedVariables false
set_option linter.unusedSimpArgs false
set_option maxRecDepth 100000
namespace Go.Proofs.YtlhkfjannhhcbaaGreatDoor
open Go Go.W Go.RowKit
theorem setLast {α : Type} (l : List α) (x y : α) : (l ++ [x]).set l.length y = l ++ [y] := by simp
def endB (e t : Int) (x : V) (s : Int) : Blk := ⟨[[.s (.int .i64 e), .s (.int .i64 t), x, .s (.int .i64 s)]], 4, 1, true⟩
theorem c82ok (e t : Int) : constOk (Value.agg #[Value.int IntKind.i64 e, Value.int IntKind.i64 t]) = true := by simp only [constOk, List.all_toArray]; rfl
theorem hid23 {n j : Nat} (h1 : 5 ≤ j) (h2 : j < n) : hid n [2, 3] j = true := by
  have e2 : ¬ j = 2 := by omega
  have e3 : ¬ j = 3 := by omega
  simp [hid, h2, e2, e3]
theorem hid23n {n j : Nat} (h1 : 5 ≤ j) (h2 : n ≤ j) : hid n [2, 3] j = false := by
  have e2 : ¬ j < n := by omega
  simp [hid, e2]
theorem um_app (n : Nat) : ∀ (rest t : H) (i : Nat), 5 ≤ i → rest.length + i ≤ n → unmask n [2, 3] i rest (mask n [2, 3] i rest ++ t) = rest ++ t
  | [], t, i, _, _ => by simp [mask, unmask]
  | B :: rest, t, i, h1, h2 => by
    simp only [List.length_cons] at h2
    simp only [mask, List.cons_append, unmask, hid23 h1 (show i < n by omega), if_true, um_app n rest t (i + 1) (by omega) (by omega)]
theorem um_rest (n : Nat) (rest : H) (h : rest.length + 5 ≤ n) : unmask n [2, 3] 5 rest (mask n [2, 3] 5 rest) = rest := by
  have := um_app n rest [] 5 (by omega) h
  simpa using this
theorem um_one (n : Nat) (rest : H) (B : Blk) (h : rest.length + 5 ≤ n) : unmask n [2, 3] 5 rest (mask n [2, 3] 5 rest ++ [B]) = rest ++ [B] := um_app n rest [B] 5 (by omega) h
theorem mk_app (n : Nat) : ∀ (rest : H) (B : Blk) (i : Nat), 5 ≤ i → n ≤ rest.length + i → mask n [2, 3] i (rest ++ [B]) = mask n [2, 3] i rest ++ [B]
  | [], B, i, h1, h2 => by
    simp only [List.length_nil] at h2
    simp [mask, hid23n h1 (show n ≤ i by omega)]
  | C :: rest, B, i, h1, h2 => by
    simp only [List.length_cons] at h2
    simp only [mask, List.cons_append, mk_app n rest B (i + 1) (by omega) (by omega)]
theorem mk_one (n : Nat) (rest : H) (B : Blk) (h : n ≤ rest.length + 5) : mask n [2, 3] 5 (rest ++ [B]) = mask n [2, 3] 5 rest ++ [B] := mk_app n rest B 5 (by omega) h
theorem um_self (n : Nat) (exc : List Nat) : ∀ (l : H) (i : Nat), unmask n exc i l (mask n exc i l) = l
  | [], i => rfl
  | B :: l, i => by
    simp only [mask, unmask, um_self n exc l (i + 1)]
    split <;> rfl
theorem um_two (n : Nat) (rest : H) (B : Blk) (h : n ≤ rest.length + 5) : unmask n [2, 3] 5 (rest ++ [B]) (mask n [2, 3] 5 rest ++ [B]) = rest ++ [B] := by
  rw [← mk_one n rest B h, um_self]
def afterD (A B : Blk) (e t : Int) (out : List Int) (s : Int) (h' : H) : Prop := ∃ cap b rest, out.length ≤ cap ∧ h' = A :: B :: endB e t (.sl b 0 out.length cap) s :: rest ∧ rest[b - 3]? = some ⟨out.map iV, 1, cap, true⟩ ∧ 3 ≤ b
theorem calls47n (m : Img) (fuel : Nat) (mc : Mc) (A0 B0 : V) (A B : Blk) (e t : Int) (rest : H) (hl : mc.out.length ≤ 400000) :
    CallsDV C 47 [.ptr 2 0 0, .ptr 4 0 0] (A :: B :: endB e t .z 0 :: xB m fuel mc A0 B0 :: ⟨[[.ptr 3 0 0]], 1, 1, true⟩ :: rest) none fun rec h' => afterD A B e t mc.out mc.steps h' := by
  refine callsD_of_run Tryz.func47 rfl (by kernel_rfl) (by kernel_rfl) (by simp) (by kernel_rfl) rfl rfl rfl rfl rfl 1000 ?_
  simp +contextual (maxSteps := 2000000) (disch := ((try unfold LIM at *); omega)) only [↓bcT, ↓bcF, WA, simprocAttr, wrI, headC, List.nil_append, List.cons_append, List.map_cons, List.map_nil, Option.isSome_none, pV, endB, xB]
  have e2 : decide (2 < rest.length + 1 + 1 + 1 + 1 + 1) = true := by simp
  have e3 : decide (3 < rest.length + 1 + 1 + 1 + 1 + 1) = true := by simp
  have e4 : decide (4 < rest.length + 1 + 1 + 1 + 1 + 1) = true := by simp
  refine DrawThen.of 1000 [2, 3] (.old 0 (.old 1 (.old 2 (.old 4 (.old 5 (.old 6 (.or 3 (.go 7 (.old 8 (.go 9 (.old 10 (.go 11 .done))))) (.go 7 (.go 3 (.old 8 (.go 9 (.old 10 (.go 11 .done))))))))))))) (fun _ _ _ _ q => q) (by kernel_rfl) (by kernel_rfl) (by kernel_rfl) ?_
  simp +contextual (maxSteps := 2000000) (disch := ((try unfold LIM at *); omega)) only [↓bcT, ↓bcF, WA, simprocAttr, wrI, List.length_map, e2, e3, e4, WB9, endB, xB, um_rest, um_one, mk_one, um_two, mask_len, ite_self]
  repeat' apply And.intro
  all_goals
    intro cap hc
    exact ⟨cap, _, _, hc, rfl, by simp, by simp⟩
theorem calls47p (m : Img) (fuel : Nat) (mc : Mc) (A0 B0 : V) (A B : Blk) (e t e0 t0 : Int) (rest : H) (hl : mc.out.length ≤ 400000) :
    CallsDV C 47 [.ptr 2 0 0, .ptr 4 0 0] (A :: B :: endB e0 t0 .z 0 :: xB m fuel mc A0 B0 :: ⟨[[.ptr 3 0 0]], 1, 1, true⟩ :: rest) (some (endV e t)) fun rec h' => rec = true ∧ afterD A B e t mc.out mc.steps h' := by
  refine callsD_of_run Tryz.func47 rfl (by kernel_rfl) (by kernel_rfl) (by simp) (by kernel_rfl) rfl rfl rfl rfl rfl 1000 ?_
  simp +contextual (maxSteps := 2000000) (disch := ((try unfold LIM at *); omega)) only [↓bcT, ↓bcF, WA, simprocAttr, wrI, headC, List.nil_append, List.cons_append, List.map_cons, List.map_nil, Option.isSome_some, pV, endV, endB, xB, conc82, c82ok, List.getElem?_concat_length, setLast, List.set_cons_succ, List.set_cons_zero]
  generalize rest ++ _ = r2
  have e2 : decide (2 < r2.length + 1 + 1 + 1 + 1 + 1) = true := by simp
  have e3 : decide (3 < r2.length + 1 + 1 + 1 + 1 + 1) = true := by simp
  have e4 : decide (4 < r2.length + 1 + 1 + 1 + 1 + 1) = true := by simp
  refine DrawThen.of 1000 [2, 3] (.old 0 (.old 1 (.old 2 (.old 4 (.old 5 (.old 6 (.or 3 (.go 7 (.old 8 (.go 9 (.old 10 (.go 11 .done))))) (.go 7 (.go 3 (.old 8 (.go 9 (.old 10 (.go 11 .done))))))))))))) (fun _ _ _ _ q => q) (by kernel_rfl) (by kernel_rfl) (by kernel_rfl) ?_
  simp +contextual (maxSteps := 2000000) (disch := ((try unfold LIM at *); omega)) only [↓bcT, ↓bcF, WA, simprocAttr, wrI, List.length_map, e2, e3, e4, WB9, endB, xB, um_rest, um_one, mk_one, um_two, mask_len, ite_self]
  repeat' apply And.intro
  all_goals
    intro cap hc
    exact ⟨rfl, cap, _, _, hc, rfl, by simp, by simp⟩
end Go.Proofs.YtlhkfjannhhcbaaGreatDoor
/- part M18 -/
set_option linter.unusedVariables false
set_option linter.unusedSimpArgs false
set_option maxRecDepth 100000
namespace Go.Proofs.YtlhkfjannhhcbaaGreatDoor
open Go Go.W Go.RowKit
theorem Arr.zf {n0 : Nat} {h : H} : Arr n0 h h fun x x' => x' = x ∨ (x = .z ∧ ∃ n, x' = .f n []) := by
  intro S w0 φ w R hn
  refine ⟨φ, R, ExtN.refl _ _ _ _, hn, fun x x' v hm r => ?_⟩
  rcases hm with rfl | ⟨rfl, n, rfl⟩
  · exact r
  · simp only [RelV, RelQ, RelC, RelP, RZ] at r ⊢
    exact .inl ⟨trivial, r⟩
theorem pure_nm {f : Nat} {args : List V} {r : V} (p : PureV C f args r) : PureV C.nm f args r := by
  obtain ⟨a, b, c⟩ := p
  exact ⟨a, b, c⟩
def aC0 (hi : Bool) : List V := if hi then [.ptr 0 0 0] else []
def aV0 (hi : Bool) : V := .fn (aF hi) (aC0 hi)
def xN (m : Img) (fuel : Nat) (mc : Mc) (hi : Bool) : Blk := xB m fuel mc (aV0 hi) (bV hi)
theorem rnB_xN (ρ : Nat → Nat) (h : ρ 1 = 0) (m : Img) (fuel : Nat) (mc : Mc) (hi : Bool) : rnB ρ (xM m fuel mc hi) = xN m fuel mc hi := by
  cases hi
  · rfl
  · show (⟨[[_, _, _, _, _, .fn 29 [.ptr (ρ 1) 0 0], _]], 7, 1, true⟩ : Blk) = _
    rw [h]; rfl
def machR (m : Img) (hi : Bool) (fu : Int) (res : Res) (h' : H) : Prop :=
  if imgB m = true ∧ fuelB fu = true then ∃ cap, (machM m fu).1.out.length ≤ cap ∧ res = .ret (.agg [.s (.int .i64 (machM m fu).2.1), .s (.int .i64 (machM m fu).2.2), .sl 1 0 (machM m fu).1.out.length cap, .s (.int .i64 (machM m fu).1.steps)]) ∧ h' = [hB hi (machM m fu).1, ⟨(machM m fu).1.out.map iV, 1, cap, true⟩]
  else res = .ret (.agg [.s (.int .i64 3), .s (.int .i64 0), .z, .s (.int .i64 0)]) ∧ h' = [hB hi ⟨0, [], []⟩]
theorem fold_x3 {m : Img} {fuel : Nat} {A0 B0 : V} {X Y Z P : Blk} {s : Int} :
    folds [X, Y, Z, ⟨[[.f 6 (m.funs.map fnV), .f 1 (m.mains.map iV), .s (.int .i64 fuel), .s (.int .i64 s), .sl 5 0 0 0, A0, B0]], 7, 1, true⟩, P, ⟨[], 1, 0, true⟩] [(3, 0, 4)] = [X, Y, Z, ⟨[[.f 6 (m.funs.map fnV), .f 1 (m.mains.map iV), .s (.int .i64 fuel), .s (.int .i64 s), .l 1 [], A0, B0]], 7, 1, true⟩, P, Blk.dead] := by
  have n0 : nrs [] = true := rfl
  simp [folds, foldC, foldK, rdC, rdB, refB, ownOf, elsB, wrH, wrB, wrE, wrL, shrinks, shr1, gcL, n0]
theorem mach_end {m : Img} {hi : Bool} {fu : Int} {mc : Mc} {e t : Int} {cap b : Nat} {A : Blk} {rest : H} (c1 : imgB m = true) (c2 : fuelB fu = true) (hq : machM m fu = (mc, (e, t))) (hA : A = hB hi mc) (h1 : mc.out.length ≤ cap) (h3 : 3 ≤ b) {B Z : Blk}
    (h2 : rest[b - 3]? = some ⟨mc.out.map iV, 1, cap, true⟩) : Up 1 (machR m hi fu) (.ret (.agg [.s (.int .i64 e), .s (.int .i64 t), .sl b 0 mc.out.length cap, .s (.int .i64 mc.steps)])) (A :: B :: Z :: rest) := by
  subst hA
  have hb : (hB hi mc :: B :: Z :: rest)[b]? = some ⟨mc.out.map iV, 1, cap, true⟩ := by
    obtain ⟨j, rfl⟩ : ∃ j, b = j + 3 := ⟨b - 3, by omega⟩
    simpa using h2
  refine Up.gcF (.agg [.s (.int .i64 e), .s (.int .i64 t), .sl 1 0 mc.out.length cap, .s (.int .i64 mc.steps)]) [] [] [0, b] [hB hi mc, ⟨mc.out.map iV, 1, cap, true⟩] (by simp; omega) rfl ⟨.inl ⟨h_nr _ _, rfl⟩, .inl ⟨nrs_map iV_nr _, hb⟩, trivial⟩ rfl ?_
  unfold machR
  rw [if_pos ⟨c1, c2⟩, hq]
  exact ⟨cap, h1, rfl, rfl⟩
theorem calls28 (m : Img) (hi : Bool) (fu : Int) (hk : m.funs.length ≤ 1048576) (hm : m.mains.length ≤ 1048576) (hs : sizeN m.funs ≤ 1048576) : CallsV C 28 [.agg (imgV m), .s (.int .i64 fu), aV0 hi, bV hi] [hB hi ⟨0, [], []⟩] (machR m hi fu) := by
  refine calls_of_defer Tryz.func28 rfl (by kernel_rfl) (by kernel_rfl) (by simp) (pre := [_, _, _, _]) (os1 := [_]) rfl rfl rfl rfl rfl 1000 1000 ?_
  have w45 := pure_nm (walk45 m hk hm hs)
  have w46 := pure_nm (walk46 fu 0 400000)
  by_cases c1 : imgB m = true
  · rw [c1] at w45
    by_cases c2 : fuelB fu = true
    · rw [show rangeB fu 0 400000 = true from c2] at w46
      simp +contextual (maxSteps := 2000000) (disch := ((try unfold LIM at *); omega)) only [↓bcT, ↓bcF, WA, simprocAttr, wrI, headC, List.nil_append, List.cons_append, List.map_cons, List.map_nil, imgV]
      refine CallThen.pure w45 1000 ?_
      simp +contextual (maxSteps := 2000000) (disch := ((try unfold LIM at *); omega)) only [↓bcT, ↓bcF, WA, simprocAttr, wrI]
      refine CallThen.pure w46 1000 ?_
      simp +contextual (maxSteps := 2000000) (disch := ((try unfold LIM at *); omega)) only [↓bcT, ↓bcF, WA, simprocAttr, wrI]
      simp +contextual (maxSteps := 2000000) (disch := ((try unfold LIM at *); omega)) only [↓bcT, ↓bcF, WA, simprocAttr, wrI, defQ1, defK, defQ, Go.W.spine, List.nil_append, List.cons_append, List.append_eq, List.map_cons, List.map_nil, List.length_map, aV0, bV]
      intro _
      obtain ⟨fuel, rfl, hfu⟩ : ∃ fuel : Nat, fu = fuel ∧ fuel ≤ 400000 := by
        simp [fuelB, rangeB] at c2
        exact ⟨fu.toNat, by omega, by omega⟩
      obtain ⟨i1, i2, i3, i4⟩ := imgB_all c1
      have eM : machM m fuel = match mainsM m.funs fuel m.mains ⟨0, [], []⟩ with
          | (mc, .error e) => (mc, e)
          | (mc, .ok _) => (mc, (1, 0)) := by unfold machM; rw [if_pos ⟨c1, c2⟩, Int.toNat_natCast]; rfl
      refine LoopThen.arr (Arr.nilCell (b := 3) (m := 1) (els' := [[.f 6 (m.funs.map fnV), .f 1 (m.mains.map iV), .s (.int .i64 fuel), .s (.int .i64 0), .sl 5 0 0 0, aV0 hi, bV hi]]) rfl ⟨⟨.inl rfl, .inl rfl, .inl rfl, .inl rfl, .inr ⟨rfl, rfl⟩, .inl rfl, .inl rfl, trivial⟩, trivial⟩) (fun _ => rfl) ?_
      simp +contextual (maxSteps := 2000000) (disch := ((try unfold LIM at *); omega)) only [↓bcT, ↓bcF, WA, simprocAttr, wrI]
      refine LoopThen.ownF 5 (ι := Nat × Mc) (fun s => s.1 ≤ m.mains.length ∧ mainsM m.funs fuel (m.mains.drop s.1) s.2 = mainsM m.funs fuel m.mains ⟨0, [], []⟩ ∧ McOk fuel s.2)
        (fun s => [(4, .ptr 1 0 0), (8, .ptr 2 0 0), (9, .ptr 4 0 0), (29, .f 1 (m.mains.map iV)), (30, .s (.int .i64 m.mains.length)), (31, .s (.int .i64 s.1))])
        (fun s => [hB hi s.2, ⟨[imgV m], 2, 1, true⟩, endB 0 0 .z 0, xN m fuel s.2 hi, ⟨[[.ptr 3 0 0]], 1, 1, true⟩]) (fun s => m.mains.length - s.1) 1000 1000
        ⟨(0, ⟨0, [], []⟩), ⟨Nat.zero_le _, rfl, ⟨Nat.zero_le _, Nat.le_refl _, rfl⟩⟩, [(3, 0, 4)], [0, 1, 2, 3, 4], ⟨by simp, rfl⟩, ?_, by simp +contextual (maxSteps := 2000000) (disch := ((try unfold LIM at *); omega)) only [↓bcT, ↓bcF, WA, simprocAttr, wrI, folds_length]⟩ ?_
      · rw [fold_x3]
        exact ⟨.inl ⟨h_nr _ _, rfl⟩, .inl ⟨rfl, rfl⟩, .inl ⟨rfl, rfl⟩, .inr (by cases hi <;> rfl), .inr rfl, trivial⟩
      · rintro ⟨i, mc⟩ ⟨q1, q2, q3⟩
        simp only at q1 q2 q3
        by_cases c5 : i < m.mains.length
        · have c5' : (i : Int) < m.mains.length := by omega
          have pi : (0 : Int) ≤ i := by omega
          obtain ⟨x, hx⟩ : ∃ x, m.mains[i]? = some x := ⟨m.mains[i], List.getElem?_eq_getElem c5⟩
          have hxv : (m.mains.map iV)[i]? = some (iV x) := by rw [List.getElem?_map, hx]; rfl
          have hol : mc.out.length ≤ 400000 := by have := q3.1; have := q3.2.1; omega
          rw [drop_cons hx] at q2
          obtain ⟨k, rfl, hk2⟩ := i4 x (List.mem_of_getElem? hx)
          obtain ⟨g, hg⟩ : ∃ g, m.funs[k]? = some g := ⟨m.funs[k], List.getElem?_eq_getElem hk2⟩
          have hgv : (m.funs.map fnV)[k]? = some (fnV g) := by rw [List.getElem?_map, hg]; rfl
          have k0 : (0 : Int) ≤ k := by omega
          have k1 : (k : Int) < m.funs.length := by omega
          simp only [fnV] at hgv
          simp only [mainsM, Int.toNat_natCast, hg] at q2
          by_cases c6 : g.args = []
          · have c6' : ¬ (0 : Int) < g.args.length := by rw [c6]; simp
            rw [if_neg (by simpa using c6)] at q2
            have D := did49 m fuel hi hfu i1 i2 fuel 0 (by omega) k g [] mc hg (by simp) (by simp) q3 (by omega)
            have ok := enterM_ok (fun g fr mc => loopM_ok m.funs fuel fuel 0 g fr mc) g [] mc (by simp) q3
            simp +contextual (maxSteps := 2000000) (disch := ((try unfold LIM at *); omega)) only [↓bcT, ↓bcF, WA, simprocAttr, wrI, List.length_map, c5', pi, hxv, iV, imgV, k0, k1, hgv, c6']
            intros
            refine CallThen.arr (args' := [.ptr 3 0 0, .s (.int .i64 k), .f 3 [], .s (.int .i64 0)]) Arr.zf ⟨.inl rfl, .inl rfl, .inr ⟨rfl, 3, rfl⟩, .inl rfl, trivial⟩ (fun t => .inl rfl) ?_
            rcases hq : enterM (loopM m.funs fuel fuel 0) g [] mc with ⟨mc', e | v⟩
            · rw [hq] at D q2 ok
              refine CallThen.did D [] [] [3, 0] _ rfl (by simp) ⟨.inr (by rw [rnB_xN _ rfl]; rfl), .inl ⟨h_nr _ _, rfl⟩, trivial⟩ rfl (stopV_rn _) 1000 (fun q hq => by cases hq) (fun _ t ht => ?_)
              have hol' : mc'.out.length ≤ 400000 := by have := ok.1.1; have := ok.1.2.1; simp only at *; omega
              have hM : machM m fuel = (mc', (e.1, e.2)) := by rw [eM, ← q2]
              show loopN _ _ _ _ _ _ _ (.pan (endV e.1 e.2)) _ (setAll _ _ ([rnB (emb [3, 0] 5) (xM m fuel mc' hi), rnB (emb [3, 0] 5) (hB hi mc')] ++ t))
              rw [rnB_xN _ rfl, rnB_h]
              simp +contextual (maxSteps := 2000000) (disch := ((try unfold LIM at *); omega)) only [↓bcT, ↓bcF, WA, simprocAttr, wrI, defQ]
              refine CallsDV.mono (calls47p m fuel mc' (aV0 hi) (bV hi) (hB hi mc') ⟨[imgV m], 2, 1, true⟩ e.1 e.2 0 0 t hol') fun rec h' ⟨r1, cap, b, rest, a1, a2, a3, a4⟩ => ?_
              subst r1; subst a2
              refine ⟨fun _ => ?_, fun q => by cases q⟩
              simp +contextual (maxSteps := 2000000) (disch := ((try unfold LIM at *); omega)) only [↓bcT, ↓bcF, WA, simprocAttr, wrI, endB]
              exact mach_end c1 c2 hM rfl a1 a4 a3
            · rw [hq] at D q2 ok
              refine CallThen.did D [] [] [3, 0] _ rfl (by simp) ⟨.inr (by rw [rnB_xN _ rfl]; rfl), .inl ⟨h_nr _ _, rfl⟩, trivial⟩ rfl (stopV_rn _) 1000 (fun q hq => ?_) (fun hq t ht => by cases hq)
              cases hq
              show Run _ _ _ _ _ _ _ (setAll _ _ [rnB (emb [3, 0] 5) (xM m fuel mc' hi), rnB (emb [3, 0] 5) (hB hi mc')])
              rw [rnB_xN _ rfl, rnB_h]
              simp +contextual (maxSteps := 2000000) (disch := ((try unfold LIM at *); omega)) only [↓bcT, ↓bcF, WA, simprocAttr, wrI, WB9]
              refine ⟨(i + 1, mc'), ⟨⟨by simp only; omega, q2, ok.1⟩, by simp only; omega⟩, [], [0, 1, 2, 3, 4], ⟨by simp, rfl⟩, ⟨.inl ⟨h_nr _ _, rfl⟩, .inl ⟨rfl, rfl⟩, .inl ⟨rfl, rfl⟩, .inr (by cases hi <;> rfl), .inr rfl, trivial⟩, by simp +contextual (maxSteps := 2000000) (disch := ((try unfold LIM at *); omega)) only [↓bcT, ↓bcF, WA, simprocAttr, wrI, cast_succ]⟩
          · have c6' : (0 : Int) < g.args.length := by have := List.length_pos_iff.2 c6; omega
            rw [if_pos (by simpa using c6)] at q2
            simp +contextual (maxSteps := 2000000) (disch := ((try unfold LIM at *); omega)) only [↓bcT, ↓bcF, WA, simprocAttr, wrI, List.length_map, c5', pi, hxv, iV, imgV, k0, k1, hgv, c6']
            intros
            refine CallThen.wrong fun t => ?_
            simp +contextual (maxSteps := 2000000) (disch := ((try unfold LIM at *); omega)) only [↓bcT, ↓bcF, WA, simprocAttr, wrI, defQ]
            have hM : machM m fuel = (mc, (3, 0)) := by rw [eM, ← q2]; rfl
            refine CallsDV.mono (calls47p m fuel mc (aV0 hi) (bV hi) (hB hi mc) ⟨[imgV m], 2, 1, true⟩ 3 0 0 0 t hol) fun rec h' ⟨r1, cap, b, rest, a1, a2, a3, a4⟩ => ?_
            subst r1; subst a2
            refine ⟨fun _ => ?_, fun q => by cases q⟩
            simp +contextual (maxSteps := 2000000) (disch := ((try unfold LIM at *); omega)) only [↓bcT, ↓bcF, WA, simprocAttr, wrI, endB]
            exact mach_end c1 c2 hM rfl a1 a4 a3
        · have ei : i = m.mains.length := by omega
          have c5' : ¬ (i : Int) < m.mains.length := by omega
          have hol : mc.out.length ≤ 400000 := by have := q3.1; have := q3.2.1; omega
          rw [List.drop_eq_nil_of_le (by omega)] at q2
          have hq : machM m fuel = (mc, (1, 0)) := by rw [eM, ← q2]; rfl
          simp +contextual (maxSteps := 2000000) (disch := ((try unfold LIM at *); omega)) only [↓bcT, ↓bcF, WA, simprocAttr, wrI, List.length_map, c5', defQ, endB]
          refine CallsDV.mono (calls47n m fuel mc (aV0 hi) (bV hi) (hB hi mc) ⟨[imgV m], 2, 1, true⟩ 1 0 [] hol) fun rec h' ⟨cap, b, rest, a1, a2, a3, a4⟩ => ?_
          subst a2
          simp +contextual (maxSteps := 2000000) (disch := ((try unfold LIM at *); omega)) only [↓bcT, ↓bcF, WA, simprocAttr, wrI, endB]
          exact mach_end c1 c2 hq rfl a1 a4 a3
    · have c2' : rangeB fu 0 400000 = false := by simpa [fuelB] using c2
      rw [c2'] at w46
      simp +contextual (maxSteps := 2000000) (disch := ((try unfold LIM at *); omega)) only [↓bcT, ↓bcF, WA, simprocAttr, wrI, headC, List.nil_append, List.cons_append, List.map_cons, List.map_nil, imgV]
      refine CallThen.pure w45 1000 ?_
      simp +contextual (maxSteps := 2000000) (disch := ((try unfold LIM at *); omega)) only [↓bcT, ↓bcF, WA, simprocAttr, wrI]
      refine CallThen.pure w46 1000 ?_
      simp +contextual (maxSteps := 2000000) (disch := ((try unfold LIM at *); omega)) only [↓bcT, ↓bcF, WA, simprocAttr, wrI, defQ1]
      exact Up.gcF (.agg [.s (.int .i64 3), .s (.int .i64 0), .z, .s (.int .i64 0)]) [] [] [0] [hB hi ⟨0, [], []⟩] (by simp) rfl ⟨.inl ⟨h_nr _ _, rfl⟩, trivial⟩ rfl (by unfold machR; rw [if_neg (fun q => c2 q.2)]; exact ⟨rfl, rfl⟩)
  · have c1' : imgB m = false := by simpa using c1
    rw [c1'] at w45
    simp +contextual (maxSteps := 2000000) (disch := ((try unfold LIM at *); omega)) only [↓bcT, ↓bcF, WA, simprocAttr, wrI, headC, List.nil_append, List.cons_append, List.map_cons, List.map_nil, imgV]
    refine CallThen.pure w45 1000 ?_
    simp +contextual (maxSteps := 2000000) (disch := ((try unfold LIM at *); omega)) only [↓bcT, ↓bcF, WA, simprocAttr, wrI, defQ1]
    exact Up.gcF (.agg [.s (.int .i64 3), .s (.int .i64 0), .z, .s (.int .i64 0)]) [] [] [0] [hB hi ⟨0, [], []⟩] (by simp) rfl ⟨.inl ⟨h_nr _ _, rfl⟩, trivial⟩ rfl (by unfold machR; rw [if_neg (fun q => c1 q.1)]; exact ⟨rfl, rfl⟩)
end Go.Proofs.YtlhkfjannhhcbaaGreatDoor
/- part M19 -/
set_option linter.unusedVariables false
set_option linter.unusedSimpArgs false
set_option maxRecDepth 100000
namespace Go.Proofs.YtlhkfjannhhcbaaGreatDoor
open Go Go.W Go.RowKit
theorem Arr.dead {n0 : Nat} {h : H} (hn : n0 ≤ h.length) : Arr n0 h (h ++ [Blk.dead]) fun x x' => x' = x := by
  have e : killFrom h.length (h ++ [(⟨[], 1, 0, true⟩ : Blk)]) = h ++ [Blk.dead] := by rw [killFrom_eq]; simp
  have a2 := Arr.top (n0 := n0) (h := h ++ [(⟨[], 1, 0, true⟩ : Blk)]) (idx := h.length) hn (by simp) 1
  rw [e] at a2
  exact ((Arr.nil (n0 := n0) (h := h) 1).trans a2).mono fun x x' q => ⟨x, .inl rfl, .inl q⟩
def endR (m : Img) (fu : Int) (res : Res) (h' : H) : Prop :=
  if imgB m = true ∧ fuelB fu = true then ∃ cap, (machM m fu).1.out.length ≤ cap ∧ res = .ret (.agg [.s (.int .i64 (machM m fu).2.1), .s (.int .i64 (machM m fu).2.2), .sl 0 0 (machM m fu).1.out.length cap, .s (.int .i64 (machM m fu).1.steps)]) ∧ h' = [⟨(machM m fu).1.out.map iV, 1, cap, true⟩]
  else res = .ret (.agg [.s (.int .i64 3), .s (.int .i64 0), .z, .s (.int .i64 0)]) ∧ h' = []
theorem calls16 (m : Img) (fu : Int) (hk : m.funs.length ≤ 1048576) (hm : m.mains.length ≤ 1048576) (hs : sizeN m.funs ≤ 1048576) : CallsV C 16 [.agg (imgV m), .s (.int .i64 fu)] [] (endR m fu) := by
  refine calls_of_run Tryz.func16 rfl (by kernel_rfl) (by kernel_rfl) (by simp) 1000 ?_
  simp +contextual (maxSteps := 2000000) (disch := ((try unfold LIM at *); omega)) only [↓bcT, ↓bcF, WA, simprocAttr, wrI, imgV]
  refine CallThen.arr (args' := [.agg (imgV m), .s (.int .i64 fu), .fn 33 [], .fn 34 []]) (Arr.dead (by simp)) ⟨rfl, rfl, rfl, rfl, trivial⟩ (fun _ => rfl) ?_
  refine CallThen.of 1000 (CallsV.frameL (calls28 m false fu hk hm hs) [2] _ (by simp) ⟨.inl ⟨h_nr _ _, rfl⟩, trivial⟩ rfl) fun res h' ⟨r, h1, q1, q2, q3, q4⟩ => ?_
  subst q3; subst q4
  unfold machR at q1
  by_cases c : imgB m = true ∧ fuelB fu = true
  · rw [if_pos c] at q1
    obtain ⟨cap, k1, rfl, rfl⟩ := q1
    simp +contextual (maxSteps := 2000000) (disch := ((try unfold LIM at *); omega)) only [↓bcT, ↓bcF, WA, simprocAttr, wrI, rnRes, rnB_h]
    refine Up.gcF (.agg [.s (.int .i64 (machM m fu).2.1), .s (.int .i64 (machM m fu).2.2), .sl 0 0 (machM m fu).1.out.length cap, .s (.int .i64 (machM m fu).1.steps)]) [] [] [3] [⟨(machM m fu).1.out.map iV, 1, cap, true⟩] (by simp) rfl ⟨.inl ⟨nrs_map iV_nr _, congrArg some (rnB_iV _ _ _)⟩, trivial⟩ rfl ?_
    unfold endR
    rw [if_pos c]
    exact ⟨cap, k1, rfl, rfl⟩
  · rw [if_neg c] at q1
    obtain ⟨rfl, rfl⟩ := q1
    simp +contextual (maxSteps := 2000000) (disch := ((try unfold LIM at *); omega)) only [↓bcT, ↓bcF, WA, simprocAttr, wrI, rnRes, rnB_h]
    refine Up.gcF (.agg [.s (.int .i64 3), .s (.int .i64 0), .z, .s (.int .i64 0)]) [] [] [] [] (by simp) rfl trivial rfl ?_
    unfold endR
    rw [if_neg c]
    exact ⟨rfl, rfl⟩
def highM (m : Img) (fu : Int) : Option (List Int) := if (machM m fu).2.1 = 3 then none else some (machM m fu).1.high
def highR (m : Img) (fu : Int) (res : Res) (h' : H) : Prop := match highM m fu with
  | none => res = .ret .z ∧ h' = []
  | some l => ∃ cap, l.length ≤ cap ∧ res = .ret (.sl 0 0 l.length cap) ∧ h' = [⟨l.map iV, 1, cap, true⟩]
theorem fold_hh {X : Blk} : folds [X, ⟨[], 1, 0, true⟩, ⟨[[.sl 1 0 0 0]], 1, 1, true⟩] [(2, 0, 0)] = [X, Blk.dead, ⟨[[.l 1 []]], 1, 1, true⟩] := by
  have n0 : nrs [] = true := rfl
  simp [folds, foldC, foldK, rdC, rdB, refB, ownOf, elsB, wrH, wrB, wrE, wrL, shrinks, shr1, gcL, n0]
theorem hBt (mc : Mc) : hB true mc = ⟨[[.l 1 (mc.high.map iV)]], 1, 1, true⟩ := rfl
theorem calls9 (m : Img) (fu : Int) (hk : m.funs.length ≤ 1048576) (hm : m.mains.length ≤ 1048576) (hs : sizeN m.funs ≤ 1048576) : CallsV C 9 [.agg (imgV m), .s (.int .i64 fu)] [] (highR m fu) := by
  refine calls_of_run Tryz.func9 rfl (by kernel_rfl) (by kernel_rfl) (by simp) 1000 ?_
  simp +contextual (maxSteps := 2000000) (disch := ((try unfold LIM at *); omega)) only [↓bcT, ↓bcF, WA, simprocAttr, wrI, imgV]
  refine CallThen.of 1000 (CallsV.fold [] [(2, 0, 0)] (CallsV.frameL (calls28 m true fu hk hm hs) [2] _ (by simp) ⟨.inl ⟨h_nr _ _, by rw [shrinks_nil, fold_hh]; rfl⟩, trivial⟩ rfl)) fun res h' ⟨r, h1, q1, q2, q3, q4⟩ => ?_
  subst q3; subst q4
  rw [shrinks_nil, fold_hh]
  unfold machR at q1
  by_cases c : imgB m = true ∧ fuelB fu = true
  · rw [if_pos c] at q1
    obtain ⟨cap, k1, rfl, rfl⟩ := q1
    by_cases c3 : (machM m fu).2.1 = 3
    · have e : highM m fu = none := by unfold highM; rw [if_pos c3]
      simp +contextual (maxSteps := 2000000) (disch := ((try unfold LIM at *); omega)) only [↓bcT, ↓bcF, WA, simprocAttr, wrI, rnRes, rnB_h, c3]
      exact Up.gcF .z [] [] [] [] (by simp) rfl trivial rfl (by unfold highR; rw [e]; exact ⟨rfl, rfl⟩)
    · have e : highM m fu = some (machM m fu).1.high := by unfold highM; rw [if_neg c3]
      simp +contextual (maxSteps := 2000000) (disch := ((try unfold LIM at *); omega)) only [↓bcT, ↓bcF, WA, simprocAttr, wrI, rnRes, rnB_h, c3, hBt, List.length_map]
      intro cap2 hc2
      refine Up.gcF (.sl 0 0 (machM m fu).1.high.length cap2) [] [] [5] [⟨(machM m fu).1.high.map iV, 1, cap2, true⟩] (by simp) rfl ⟨.inl ⟨nrs_map iV_nr _, rfl⟩, trivial⟩ rfl ?_
      unfold highR
      rw [e]
      exact ⟨cap2, hc2, rfl, rfl⟩
  · rw [if_neg c] at q1
    obtain ⟨rfl, rfl⟩ := q1
    have e : highM m fu = none := by unfold highM machM; rw [if_neg c]; rfl
    simp +contextual (maxSteps := 2000000) (disch := ((try unfold LIM at *); omega)) only [↓bcT, ↓bcF, WA, simprocAttr, wrI, rnRes, rnB_h]
    exact Up.gcF .z [] [] [] [] (by simp) rfl trivial rfl (by unfold highR; rw [e]; exact ⟨rfl, rfl⟩)
end Go.Proofs.YtlhkfjannhhcbaaGreatDoor
/- part N1 -/
set_option linter.unusedVariables false
set_option linter.unusedSimpArgs false
set_option maxRecDepth 100000
namespace Go.Proofs.YtlhkfjannhhcbaaGreatDoor
open Go Go.W Go.RowKit
theorem walk85 (n : Int) : PureV C 85 [.s (.int .i64 n)] (.agg (valV (intE n))) := by
  refine pure_of_run Tryz.func85 rfl (by kernel_rfl) (by kernel_rfl) (by simp) (fun _ => rfl) (fun _ => rfl) 6 1000 ?_
  simp +contextual (maxSteps := 2000000) (disch := ((try unfold LIM at *); omega)) only [↓bcT, ↓bcF, WA, simprocAttr, wrI, valV, intE, rowV1]
theorem walk86 (b : Bool) : PureV C 86 [.s (.bool b)] (.agg (valV (boolE b))) := by
  refine pure_of_run Tryz.func86 rfl (by kernel_rfl) (by kernel_rfl) (by simp) (fun _ => rfl) (fun _ => rfl) 6 1000 ?_
  cases b
  · simp +contextual (maxSteps := 2000000) (disch := ((try unfold LIM at *); omega)) only [↓bcT, ↓bcF, WA, simprocAttr, wrI, valV, boolE, rowV2]
  · simp +contextual (maxSteps := 2000000) (disch := ((try unfold LIM at *); omega)) only [↓bcT, ↓bcF, WA, simprocAttr, wrI, valV, boolE, rowV2]
theorem walk122 (l : List Int) : PureV C 122 [.f 1 (l.map iV)] (.agg (valV (rowE l))) := by
  refine pure_of_run Tryz.func122 rfl (by kernel_rfl) (by kernel_rfl) (by simp) (fun _ => rfl) (fun _ => rfl) 6 1000 ?_
  simp +contextual (maxSteps := 2000000) (disch := ((try unfold LIM at *); omega)) only [↓bcT, ↓bcF, WA, simprocAttr, wrI, valV, rowE, rowV3]
theorem w148_0 (a b : Int) : PureV C 148 [.s (.int .i64 1), .s (.int .i64 a), .s (.int .i64 b)] (.tup [.agg (valV (intE (wr (a + b)))), .s (.int .i64 0)]) := by
  refine pure_of_run Tryz.func148 rfl (by kernel_rfl) (by kernel_rfl) (by simp) (fun _ => rfl) (fun _ => rfl) 6 1000 ?_
  simp +contextual (maxSteps := 2000000) (disch := ((try unfold LIM at *); omega)) only [↓bcT, ↓bcF, WA, simprocAttr, wrI]
  refine CallThen.pure (walk85 _) 1000 ?_
  simp +contextual (maxSteps := 2000000) (disch := ((try unfold LIM at *); omega)) only [↓bcT, ↓bcF, WA, simprocAttr, wrI, valV, intE, boolE, rowE, zeroE, rowV0, rowV1, rowV2, rowV3]
theorem w148_1 (a b : Int) : PureV C 148 [.s (.int .i64 2), .s (.int .i64 a), .s (.int .i64 b)] (.tup [.agg (valV (intE (wr (a - b)))), .s (.int .i64 0)]) := by
  refine pure_of_run Tryz.func148 rfl (by kernel_rfl) (by kernel_rfl) (by simp) (fun _ => rfl) (fun _ => rfl) 6 1000 ?_
  simp +contextual (maxSteps := 2000000) (disch := ((try unfold LIM at *); omega)) only [↓bcT, ↓bcF, WA, simprocAttr, wrI]
  refine CallThen.pure (walk85 _) 1000 ?_
  simp +contextual (maxSteps := 2000000) (disch := ((try unfold LIM at *); omega)) only [↓bcT, ↓bcF, WA, simprocAttr, wrI, valV, intE, boolE, rowE, zeroE, rowV0, rowV1, rowV2, rowV3]
theorem w148_2 (a b : Int) : PureV C 148 [.s (.int .i64 3), .s (.int .i64 a), .s (.int .i64 b)] (.tup [.agg (valV (intE (wr (a * b)))), .s (.int .i64 0)]) := by
  refine pure_of_run Tryz.func148 rfl (by kernel_rfl) (by kernel_rfl) (by simp) (fun _ => rfl) (fun _ => rfl) 6 1000 ?_
  simp +contextual (maxSteps := 2000000) (disch := ((try unfold LIM at *); omega)) only [↓bcT, ↓bcF, WA, simprocAttr, wrI]
  refine CallThen.pure (walk85 _) 1000 ?_
  simp +contextual (maxSteps := 2000000) (disch := ((try unfold LIM at *); omega)) only [↓bcT, ↓bcF, WA, simprocAttr, wrI, valV, intE, boolE, rowE, zeroE, rowV0, rowV1, rowV2, rowV3]
theorem w148_5 (a b : Int) : PureV C 148 [.s (.int .i64 6), .s (.int .i64 a), .s (.int .i64 b)] (.tup [.agg (valV (boolE (decide (a < b)))), .s (.int .i64 0)]) := by
  refine pure_of_run Tryz.func148 rfl (by kernel_rfl) (by kernel_rfl) (by simp) (fun _ => rfl) (fun _ => rfl) 6 1000 ?_
  simp +contextual (maxSteps := 2000000) (disch := ((try unfold LIM at *); omega)) only [↓bcT, ↓bcF, WA, simprocAttr, wrI]
  refine CallThen.pure (walk86 _) 1000 ?_
  simp +contextual (maxSteps := 2000000) (disch := ((try unfold LIM at *); omega)) only [↓bcT, ↓bcF, WA, simprocAttr, wrI, valV, intE, boolE, rowE, zeroE, rowV0, rowV1, rowV2, rowV3]
theorem w148_6 (a b : Int) : PureV C 148 [.s (.int .i64 7), .s (.int .i64 a), .s (.int .i64 b)] (.tup [.agg (valV (boolE (decide (a ≤ b)))), .s (.int .i64 0)]) := by
  refine pure_of_run Tryz.func148 rfl (by kernel_rfl) (by kernel_rfl) (by simp) (fun _ => rfl) (fun _ => rfl) 6 1000 ?_
  simp +contextual (maxSteps := 2000000) (disch := ((try unfold LIM at *); omega)) only [↓bcT, ↓bcF, WA, simprocAttr, wrI]
  refine CallThen.pure (walk86 _) 1000 ?_
  simp +contextual (maxSteps := 2000000) (disch := ((try unfold LIM at *); omega)) only [↓bcT, ↓bcF, WA, simprocAttr, wrI, valV, intE, boolE, rowE, zeroE, rowV0, rowV1, rowV2, rowV3]
theorem w148_7 (a b : Int) : PureV C 148 [.s (.int .i64 8), .s (.int .i64 a), .s (.int .i64 b)] (.tup [.agg (valV (boolE (decide (a = b)))), .s (.int .i64 0)]) := by
  refine pure_of_run Tryz.func148 rfl (by kernel_rfl) (by kernel_rfl) (by simp) (fun _ => rfl) (fun _ => rfl) 6 1000 ?_
  simp +contextual (maxSteps := 2000000) (disch := ((try unfold LIM at *); omega)) only [↓bcT, ↓bcF, WA, simprocAttr, wrI]
  refine CallThen.pure (walk86 _) 1000 ?_
  simp +contextual (maxSteps := 2000000) (disch := ((try unfold LIM at *); omega)) only [↓bcT, ↓bcF, WA, simprocAttr, wrI, valV, intE, boolE, rowE, zeroE, rowV0, rowV1, rowV2, rowV3]
theorem w148_3z (a : Int) : PureV C 148 [.s (.int .i64 4), .s (.int .i64 a), .s (.int .i64 0)] (.tup [.agg (valV zeroE), .s (.int .i64 1)]) := by
  refine pure_of_run Tryz.func148 rfl (by kernel_rfl) (by kernel_rfl) (by simp) (fun _ => rfl) (fun _ => rfl) 6 1000 ?_
  simp +contextual (maxSteps := 2000000) (disch := ((try unfold LIM at *); omega)) only [↓bcT, ↓bcF, WA, simprocAttr, wrI, valV, intE, boolE, rowE, zeroE, rowV0, rowV1, rowV2, rowV3]
theorem w148_3 (a b : Int) (hb : b ≠ 0) : PureV C 148 [.s (.int .i64 4), .s (.int .i64 a), .s (.int .i64 b)] (.tup [.agg (valV (intE (wr (a.tdiv b)))), .s (.int .i64 0)]) := by
  refine pure_of_run Tryz.func148 rfl (by kernel_rfl) (by kernel_rfl) (by simp) (fun _ => rfl) (fun _ => rfl) 6 1000 ?_
  simp +contextual (maxSteps := 2000000) (disch := ((try unfold LIM at *); omega)) only [↓bcT, ↓bcF, WA, simprocAttr, wrI, hb]
  refine CallThen.pure (walk85 _) 1000 ?_
  simp +contextual (maxSteps := 2000000) (disch := ((try unfold LIM at *); omega)) only [↓bcT, ↓bcF, WA, simprocAttr, wrI, valV, intE, boolE, rowE, zeroE, rowV0, rowV1, rowV2, rowV3]
theorem w148_4z (a : Int) : PureV C 148 [.s (.int .i64 5), .s (.int .i64 a), .s (.int .i64 0)] (.tup [.agg (valV zeroE), .s (.int .i64 1)]) := by
  refine pure_of_run Tryz.func148 rfl (by kernel_rfl) (by kernel_rfl) (by simp) (fun _ => rfl) (fun _ => rfl) 6 1000 ?_
  simp +contextual (maxSteps := 2000000) (disch := ((try unfold LIM at *); omega)) only [↓bcT, ↓bcF, WA, simprocAttr, wrI, valV, intE, boolE, rowE, zeroE, rowV0, rowV1, rowV2, rowV3]
theorem w148_4 (a b : Int) (hb : b ≠ 0) : PureV C 148 [.s (.int .i64 5), .s (.int .i64 a), .s (.int .i64 b)] (.tup [.agg (valV (intE (a.tmod b))), .s (.int .i64 0)]) := by
  refine pure_of_run Tryz.func148 rfl (by kernel_rfl) (by kernel_rfl) (by simp) (fun _ => rfl) (fun _ => rfl) 6 1000 ?_
  simp +contextual (maxSteps := 2000000) (disch := ((try unfold LIM at *); omega)) only [↓bcT, ↓bcF, WA, simprocAttr, wrI, hb]
  refine CallThen.pure (walk85 _) 1000 ?_
  simp +contextual (maxSteps := 2000000) (disch := ((try unfold LIM at *); omega)) only [↓bcT, ↓bcF, WA, simprocAttr, wrI, valV, intE, boolE, rowE, zeroE, rowV0, rowV1, rowV2, rowV3]
theorem w121_0 (a b : Int) : PureV C 121 [.s (.string (primW 0)), .f 3 [valV (intE a), valV (intE b)]] (.tup [.agg (valV (intE (wr (a + b)))), .s (.int .i64 0)]) := by
  refine pure_of_run Tryz.func121 rfl (by kernel_rfl) (by kernel_rfl) (by simp) (fun _ => rfl) (fun _ => rfl) 6 1000 ?_
  have w := pure146 (primW 0)
  rw [ix_0] at w
  simp +contextual (maxSteps := 2000000) (disch := ((try unfold LIM at *); omega)) only [↓bcT, ↓bcF, WA, simprocAttr, wrI]
  refine CallThen.pure w 1000 ?_
  simp +contextual (maxSteps := 2000000) (disch := ((try unfold LIM at *); omega)) only [↓bcT, ↓bcF, WA, simprocAttr, wrI, valV, intE, boolE, rowE, zeroE, rowV0, rowV1, rowV2, rowV3]
  refine DrawThen.of 1000 [0] (.old 0 (.old 1 (.old 2 (.old 3 (.old 4 (.old 5 (.old 6 (.old 7 (.old 8 (.go 9 (.new 10 (.new 11 (.go 12 (.new 13 .done)))))))))))))) (fun _ _ _ _ q => q) (by kernel_rfl) (by kernel_rfl) (by kernel_rfl) ?_
  simp +contextual (maxSteps := 2000000) (disch := ((try unfold LIM at *); omega)) only [↓bcT, ↓bcF, WA, simprocAttr, wrI, valV, intE, boolE, rowE, zeroE, rowV0, rowV1, rowV2, rowV3]
  refine DCall.pure (w148_0 a b) 1000 (.new 10 (.new 11 (.go 12 (.new 13 .done)))) (by kernel_rfl) ?_
  simp +contextual (maxSteps := 2000000) (disch := ((try unfold LIM at *); omega)) only [↓bcT, ↓bcF, WA, simprocAttr, wrI, valV, intE, boolE, rowE, zeroE, rowV0, rowV1, rowV2, rowV3]
  try simp +contextual (maxSteps := 2000000) (disch := ((try unfold LIM at *); omega)) only [↓bcT, ↓bcF, WA, simprocAttr, wrI, valV, intE, boolE, rowE, zeroE, rowV0, rowV1, rowV2, rowV3]
  repeat' apply And.intro
  all_goals
    rfl
theorem w121_1 (a b : Int) : PureV C 121 [.s (.string (primW 1)), .f 3 [valV (intE a), valV (intE b)]] (.tup [.agg (valV (intE (wr (a - b)))), .s (.int .i64 0)]) := by
  refine pure_of_run Tryz.func121 rfl (by kernel_rfl) (by kernel_rfl) (by simp) (fun _ => rfl) (fun _ => rfl) 6 1000 ?_
  have w := pure146 (primW 1)
  rw [ix_1] at w
  simp +contextual (maxSteps := 2000000) (disch := ((try unfold LIM at *); omega)) only [↓bcT, ↓bcF, WA, simprocAttr, wrI]
  refine CallThen.pure w 1000 ?_
  simp +contextual (maxSteps := 2000000) (disch := ((try unfold LIM at *); omega)) only [↓bcT, ↓bcF, WA, simprocAttr, wrI, valV, intE, boolE, rowE, zeroE, rowV0, rowV1, rowV2, rowV3]
  refine DrawThen.of 1000 [0] (.old 0 (.old 1 (.old 2 (.old 3 (.old 4 (.old 5 (.old 6 (.old 7 (.old 8 (.go 9 (.new 10 (.new 11 (.go 12 (.new 13 .done)))))))))))))) (fun _ _ _ _ q => q) (by kernel_rfl) (by kernel_rfl) (by kernel_rfl) ?_
  simp +contextual (maxSteps := 2000000) (disch := ((try unfold LIM at *); omega)) only [↓bcT, ↓bcF, WA, simprocAttr, wrI, valV, intE, boolE, rowE, zeroE, rowV0, rowV1, rowV2, rowV3]
  refine DCall.pure (w148_1 a b) 1000 (.new 10 (.new 11 (.go 12 (.new 13 .done)))) (by kernel_rfl) ?_
  simp +contextual (maxSteps := 2000000) (disch := ((try unfold LIM at *); omega)) only [↓bcT, ↓bcF, WA, simprocAttr, wrI, valV, intE, boolE, rowE, zeroE, rowV0, rowV1, rowV2, rowV3]
  try simp +contextual (maxSteps := 2000000) (disch := ((try unfold LIM at *); omega)) only [↓bcT, ↓bcF, WA, simprocAttr, wrI, valV, intE, boolE, rowE, zeroE, rowV0, rowV1, rowV2, rowV3]
  repeat' apply And.intro
  all_goals
    rfl
theorem w121_2 (a b : Int) : PureV C 121 [.s (.string (primW 2)), .f 3 [valV (intE a), valV (intE b)]] (.tup [.agg (valV (intE (wr (a * b)))), .s (.int .i64 0)]) := by
  refine pure_of_run Tryz.func121 rfl (by kernel_rfl) (by kernel_rfl) (by simp) (fun _ => rfl) (fun _ => rfl) 6 1000 ?_
  have w := pure146 (primW 2)
  rw [ix_2] at w
  simp +contextual (maxSteps := 2000000) (disch := ((try unfold LIM at *); omega)) only [↓bcT, ↓bcF, WA, simprocAttr, wrI]
  refine CallThen.pure w 1000 ?_
  simp +contextual (maxSteps := 2000000) (disch := ((try unfold LIM at *); omega)) only [↓bcT, ↓bcF, WA, simprocAttr, wrI, valV, intE, boolE, rowE, zeroE, rowV0, rowV1, rowV2, rowV3]
  refine DrawThen.of 1000 [0] (.old 0 (.old 1 (.old 2 (.old 3 (.old 4 (.old 5 (.old 6 (.old 7 (.old 8 (.go 9 (.new 10 (.new 11 (.go 12 (.new 13 .done)))))))))))))) (fun _ _ _ _ q => q) (by kernel_rfl) (by kernel_rfl) (by kernel_rfl) ?_
  simp +contextual (maxSteps := 2000000) (disch := ((try unfold LIM at *); omega)) only [↓bcT, ↓bcF, WA, simprocAttr, wrI, valV, intE, boolE, rowE, zeroE, rowV0, rowV1, rowV2, rowV3]
  refine DCall.pure (w148_2 a b) 1000 (.new 10 (.new 11 (.go 12 (.new 13 .done)))) (by kernel_rfl) ?_
  simp +contextual (maxSteps := 2000000) (disch := ((try unfold LIM at *); omega)) only [↓bcT, ↓bcF, WA, simprocAttr, wrI, valV, intE, boolE, rowE, zeroE, rowV0, rowV1, rowV2, rowV3]
  try simp +contextual (maxSteps := 2000000) (disch := ((try unfold LIM at *); omega)) only [↓bcT, ↓bcF, WA, simprocAttr, wrI, valV, intE, boolE, rowE, zeroE, rowV0, rowV1, rowV2, rowV3]
  repeat' apply And.intro
  all_goals
    rfl
theorem w121_3z (a : Int) : PureV C 121 [.s (.string (primW 3)), .f 3 [valV (intE a), valV (intE 0)]] (.tup [.agg (valV (zeroE)), .s (.int .i64 1)]) := by
  refine pure_of_run Tryz.func121 rfl (by kernel_rfl) (by kernel_rfl) (by simp) (fun _ => rfl) (fun _ => rfl) 6 1000 ?_
  have w := pure146 (primW 3)
  rw [ix_3] at w
  simp +contextual (maxSteps := 2000000) (disch := ((try unfold LIM at *); omega)) only [↓bcT, ↓bcF, WA, simprocAttr, wrI]
  refine CallThen.pure w 1000 ?_
  simp +contextual (maxSteps := 2000000) (disch := ((try unfold LIM at *); omega)) only [↓bcT, ↓bcF, WA, simprocAttr, wrI, valV, intE, boolE, rowE, zeroE, rowV0, rowV1, rowV2, rowV3]
  refine DrawThen.of 1000 [0] (.old 0 (.old 1 (.old 2 (.old 3 (.old 4 (.old 5 (.old 6 (.old 7 (.old 8 (.go 9 (.new 10 (.new 11 (.go 12 (.new 13 .done)))))))))))))) (fun _ _ _ _ q => q) (by kernel_rfl) (by kernel_rfl) (by kernel_rfl) ?_
  simp +contextual (maxSteps := 2000000) (disch := ((try unfold LIM at *); omega)) only [↓bcT, ↓bcF, WA, simprocAttr, wrI, valV, intE, boolE, rowE, zeroE, rowV0, rowV1, rowV2, rowV3]
  refine DCall.pure (w148_3z a) 1000 (.new 10 (.new 11 (.go 12 (.new 13 .done)))) (by kernel_rfl) ?_
  simp +contextual (maxSteps := 2000000) (disch := ((try unfold LIM at *); omega)) only [↓bcT, ↓bcF, WA, simprocAttr, wrI, valV, intE, boolE, rowE, zeroE, rowV0, rowV1, rowV2, rowV3]
  try simp +contextual (maxSteps := 2000000) (disch := ((try unfold LIM at *); omega)) only [↓bcT, ↓bcF, WA, simprocAttr, wrI, valV, intE, boolE, rowE, zeroE, rowV0, rowV1, rowV2, rowV3]
  repeat' apply And.intro
  all_goals
    rfl
theorem w121_3 (a b : Int) (hb : b ≠ 0) : PureV C 121 [.s (.string (primW 3)), .f 3 [valV (intE a), valV (intE b)]] (.tup [.agg (valV (intE (wr (a.tdiv b)))), .s (.int .i64 0)]) := by
  refine pure_of_run Tryz.func121 rfl (by kernel_rfl) (by kernel_rfl) (by simp) (fun _ => rfl) (fun _ => rfl) 6 1000 ?_
  have w := pure146 (primW 3)
  rw [ix_3] at w
  simp +contextual (maxSteps := 2000000) (disch := ((try unfold LIM at *); omega)) only [↓bcT, ↓bcF, WA, simprocAttr, wrI]
  refine CallThen.pure w 1000 ?_
  simp +contextual (maxSteps := 2000000) (disch := ((try unfold LIM at *); omega)) only [↓bcT, ↓bcF, WA, simprocAttr, wrI, valV, intE, boolE, rowE, zeroE, rowV0, rowV1, rowV2, rowV3]
  refine DrawThen.of 1000 [0] (.old 0 (.old 1 (.old 2 (.old 3 (.old 4 (.old 5 (.old 6 (.old 7 (.old 8 (.go 9 (.new 10 (.new 11 (.go 12 (.new 13 .done)))))))))))))) (fun _ _ _ _ q => q) (by kernel_rfl) (by kernel_rfl) (by kernel_rfl) ?_
  simp +contextual (maxSteps := 2000000) (disch := ((try unfold LIM at *); omega)) only [↓bcT, ↓bcF, WA, simprocAttr, wrI, valV, intE, boolE, rowE, zeroE, rowV0, rowV1, rowV2, rowV3]
  refine DCall.pure (w148_3 a b hb) 1000 (.new 10 (.new 11 (.go 12 (.new 13 .done)))) (by kernel_rfl) ?_
  simp +contextual (maxSteps := 2000000) (disch := ((try unfold LIM at *); omega)) only [↓bcT, ↓bcF, WA, simprocAttr, wrI, valV, intE, boolE, rowE, zeroE, rowV0, rowV1, rowV2, rowV3]
  try simp +contextual (maxSteps := 2000000) (disch := ((try unfold LIM at *); omega)) only [↓bcT, ↓bcF, WA, simprocAttr, wrI, valV, intE, boolE, rowE, zeroE, rowV0, rowV1, rowV2, rowV3]
  repeat' apply And.intro
  all_goals
    rfl
theorem w121_4z (a : Int) : PureV C 121 [.s (.string (primW 4)), .f 3 [valV (intE a), valV (intE 0)]] (.tup [.agg (valV (zeroE)), .s (.int .i64 1)]) := by
  refine pure_of_run Tryz.func121 rfl (by kernel_rfl) (by kernel_rfl) (by simp) (fun _ => rfl) (fun _ => rfl) 6 1000 ?_
  have w := pure146 (primW 4)
  rw [ix_4] at w
  simp +contextual (maxSteps := 2000000) (disch := ((try unfold LIM at *); omega)) only [↓bcT, ↓bcF, WA, simprocAttr, wrI]
  refine CallThen.pure w 1000 ?_
  simp +contextual (maxSteps := 2000000) (disch := ((try unfold LIM at *); omega)) only [↓bcT, ↓bcF, WA, simprocAttr, wrI, valV, intE, boolE, rowE, zeroE, rowV0, rowV1, rowV2, rowV3]
  refine DrawThen.of 1000 [0] (.old 0 (.old 1 (.old 2 (.old 3 (.old 4 (.old 5 (.old 6 (.old 7 (.old 8 (.go 9 (.new 10 (.new 11 (.go 12 (.new 13 .done)))))))))))))) (fun _ _ _ _ q => q) (by kernel_rfl) (by kernel_rfl) (by kernel_rfl) ?_
  simp +contextual (maxSteps := 2000000) (disch := ((try unfold LIM at *); omega)) only [↓bcT, ↓bcF, WA, simprocAttr, wrI, valV, intE, boolE, rowE, zeroE, rowV0, rowV1, rowV2, rowV3]
  refine DCall.pure (w148_4z a) 1000 (.new 10 (.new 11 (.go 12 (.new 13 .done)))) (by kernel_rfl) ?_
  simp +contextual (maxSteps := 2000000) (disch := ((try unfold LIM at *); omega)) only [↓bcT, ↓bcF, WA, simprocAttr, wrI, valV, intE, boolE, rowE, zeroE, rowV0, rowV1, rowV2, rowV3]
  try simp +contextual (maxSteps := 2000000) (disch := ((try unfold LIM at *); omega)) only [↓bcT, ↓bcF, WA, simprocAttr, wrI, valV, intE, boolE, rowE, zeroE, rowV0, rowV1, rowV2, rowV3]
  repeat' apply And.intro
  all_goals
    rfl
theorem w121_4 (a b : Int) (hb : b ≠ 0) : PureV C 121 [.s (.string (primW 4)), .f 3 [valV (intE a), valV (intE b)]] (.tup [.agg (valV (intE (a.tmod b))), .s (.int .i64 0)]) := by
  refine pure_of_run Tryz.func121 rfl (by kernel_rfl) (by kernel_rfl) (by simp) (fun _ => rfl) (fun _ => rfl) 6 1000 ?_
  have w := pure146 (primW 4)
  rw [ix_4] at w
  simp +contextual (maxSteps := 2000000) (disch := ((try unfold LIM at *); omega)) only [↓bcT, ↓bcF, WA, simprocAttr, wrI]
  refine CallThen.pure w 1000 ?_
  simp +contextual (maxSteps := 2000000) (disch := ((try unfold LIM at *); omega)) only [↓bcT, ↓bcF, WA, simprocAttr, wrI, valV, intE, boolE, rowE, zeroE, rowV0, rowV1, rowV2, rowV3]
  refine DrawThen.of 1000 [0] (.old 0 (.old 1 (.old 2 (.old 3 (.old 4 (.old 5 (.old 6 (.old 7 (.old 8 (.go 9 (.new 10 (.new 11 (.go 12 (.new 13 .done)))))))))))))) (fun _ _ _ _ q => q) (by kernel_rfl) (by kernel_rfl) (by kernel_rfl) ?_
  simp +contextual (maxSteps := 2000000) (disch := ((try unfold LIM at *); omega)) only [↓bcT, ↓bcF, WA, simprocAttr, wrI, valV, intE, boolE, rowE, zeroE, rowV0, rowV1, rowV2, rowV3]
  refine DCall.pure (w148_4 a b hb) 1000 (.new 10 (.new 11 (.go 12 (.new 13 .done)))) (by kernel_rfl) ?_
  simp +contextual (maxSteps := 2000000) (disch := ((try unfold LIM at *); omega)) only [↓bcT, ↓bcF, WA, simprocAttr, wrI, valV, intE, boolE, rowE, zeroE, rowV0, rowV1, rowV2, rowV3]
  try simp +contextual (maxSteps := 2000000) (disch := ((try unfold LIM at *); omega)) only [↓bcT, ↓bcF, WA, simprocAttr, wrI, valV, intE, boolE, rowE, zeroE, rowV0, rowV1, rowV2, rowV3]
  repeat' apply And.intro
  all_goals
    rfl
theorem w121_5 (a b : Int) : PureV C 121 [.s (.string (primW 5)), .f 3 [valV (intE a), valV (intE b)]] (.tup [.agg (valV (boolE (decide (a < b)))), .s (.int .i64 0)]) := by
  refine pure_of_run Tryz.func121 rfl (by kernel_rfl) (by kernel_rfl) (by simp) (fun _ => rfl) (fun _ => rfl) 6 1000 ?_
  have w := pure146 (primW 5)
  rw [ix_5] at w
  simp +contextual (maxSteps := 2000000) (disch := ((try unfold LIM at *); omega)) only [↓bcT, ↓bcF, WA, simprocAttr, wrI]
  refine CallThen.pure w 1000 ?_
  simp +contextual (maxSteps := 2000000) (disch := ((try unfold LIM at *); omega)) only [↓bcT, ↓bcF, WA, simprocAttr, wrI, valV, intE, boolE, rowE, zeroE, rowV0, rowV1, rowV2, rowV3]
  refine DrawThen.of 1000 [0] (.old 0 (.old 1 (.old 2 (.old 3 (.old 4 (.old 5 (.old 6 (.old 7 (.old 8 (.go 9 (.new 10 (.new 11 (.go 12 (.new 13 .done)))))))))))))) (fun _ _ _ _ q => q) (by kernel_rfl) (by kernel_rfl) (by kernel_rfl) ?_
  simp +contextual (maxSteps := 2000000) (disch := ((try unfold LIM at *); omega)) only [↓bcT, ↓bcF, WA, simprocAttr, wrI, valV, intE, boolE, rowE, zeroE, rowV0, rowV1, rowV2, rowV3]
  refine DCall.pure (w148_5 a b) 1000 (.new 10 (.new 11 (.go 12 (.new 13 .done)))) (by kernel_rfl) ?_
  simp +contextual (maxSteps := 2000000) (disch := ((try unfold LIM at *); omega)) only [↓bcT, ↓bcF, WA, simprocAttr, wrI, valV, intE, boolE, rowE, zeroE, rowV0, rowV1, rowV2, rowV3]
  try simp +contextual (maxSteps := 2000000) (disch := ((try unfold LIM at *); omega)) only [↓bcT, ↓bcF, WA, simprocAttr, wrI, valV, intE, boolE, rowE, zeroE, rowV0, rowV1, rowV2, rowV3]
  repeat' apply And.intro
  all_goals
    rfl
theorem w121_6 (a b : Int) : PureV C 121 [.s (.string (primW 6)), .f 3 [valV (intE a), valV (intE b)]] (.tup [.agg (valV (boolE (decide (a ≤ b)))), .s (.int .i64 0)]) := by
  refine pure_of_run Tryz.func121 rfl (by kernel_rfl) (by kernel_rfl) (by simp) (fun _ => rfl) (fun _ => rfl) 6 1000 ?_
  have w := pure146 (primW 6)
  rw [ix_6] at w
  simp +contextual (maxSteps := 2000000) (disch := ((try unfold LIM at *); omega)) only [↓bcT, ↓bcF, WA, simprocAttr, wrI]
  refine CallThen.pure w 1000 ?_
  simp +contextual (maxSteps := 2000000) (disch := ((try unfold LIM at *); omega)) only [↓bcT, ↓bcF, WA, simprocAttr, wrI, valV, intE, boolE, rowE, zeroE, rowV0, rowV1, rowV2, rowV3]
  refine DrawThen.of 1000 [0] (.old 0 (.old 1 (.old 2 (.old 3 (.old 4 (.old 5 (.old 6 (.old 7 (.old 8 (.go 9 (.new 10 (.new 11 (.go 12 (.new 13 .done)))))))))))))) (fun _ _ _ _ q => q) (by kernel_rfl) (by kernel_rfl) (by kernel_rfl) ?_
  simp +contextual (maxSteps := 2000000) (disch := ((try unfold LIM at *); omega)) only [↓bcT, ↓bcF, WA, simprocAttr, wrI, valV, intE, boolE, rowE, zeroE, rowV0, rowV1, rowV2, rowV3]
  refine DCall.pure (w148_6 a b) 1000 (.new 10 (.new 11 (.go 12 (.new 13 .done)))) (by kernel_rfl) ?_
  simp +contextual (maxSteps := 2000000) (disch := ((try unfold LIM at *); omega)) only [↓bcT, ↓bcF, WA, simprocAttr, wrI, valV, intE, boolE, rowE, zeroE, rowV0, rowV1, rowV2, rowV3]
  try simp +contextual (maxSteps := 2000000) (disch := ((try unfold LIM at *); omega)) only [↓bcT, ↓bcF, WA, simprocAttr, wrI, valV, intE, boolE, rowE, zeroE, rowV0, rowV1, rowV2, rowV3]
  repeat' apply And.intro
  all_goals
    rfl
theorem w121_7 (a b : Int) : PureV C 121 [.s (.string (primW 7)), .f 3 [valV (intE a), valV (intE b)]] (.tup [.agg (valV (boolE (decide (a = b)))), .s (.int .i64 0)]) := by
  refine pure_of_run Tryz.func121 rfl (by kernel_rfl) (by kernel_rfl) (by simp) (fun _ => rfl) (fun _ => rfl) 6 1000 ?_
  have w := pure146 (primW 7)
  rw [ix_7] at w
  simp +contextual (maxSteps := 2000000) (disch := ((try unfold LIM at *); omega)) only [↓bcT, ↓bcF, WA, simprocAttr, wrI]
  refine CallThen.pure w 1000 ?_
  simp +contextual (maxSteps := 2000000) (disch := ((try unfold LIM at *); omega)) only [↓bcT, ↓bcF, WA, simprocAttr, wrI, valV, intE, boolE, rowE, zeroE, rowV0, rowV1, rowV2, rowV3]
  refine DrawThen.of 1000 [0] (.old 0 (.old 1 (.old 2 (.old 3 (.old 4 (.old 5 (.old 6 (.old 7 (.old 8 (.go 9 (.new 10 (.new 11 (.go 12 (.new 13 .done)))))))))))))) (fun _ _ _ _ q => q) (by kernel_rfl) (by kernel_rfl) (by kernel_rfl) ?_
  simp +contextual (maxSteps := 2000000) (disch := ((try unfold LIM at *); omega)) only [↓bcT, ↓bcF, WA, simprocAttr, wrI, valV, intE, boolE, rowE, zeroE, rowV0, rowV1, rowV2, rowV3]
  refine DCall.pure (w148_7 a b) 1000 (.new 10 (.new 11 (.go 12 (.new 13 .done)))) (by kernel_rfl) ?_
  simp +contextual (maxSteps := 2000000) (disch := ((try unfold LIM at *); omega)) only [↓bcT, ↓bcF, WA, simprocAttr, wrI, valV, intE, boolE, rowE, zeroE, rowV0, rowV1, rowV2, rowV3]
  try simp +contextual (maxSteps := 2000000) (disch := ((try unfold LIM at *); omega)) only [↓bcT, ↓bcF, WA, simprocAttr, wrI, valV, intE, boolE, rowE, zeroE, rowV0, rowV1, rowV2, rowV3]
  repeat' apply And.intro
  all_goals
    rfl
theorem w119_0 : PureV C 119 [.s (.string (primW 0))] (.s (.int .i64 (primT 0).1.length)) := by
  refine pure_of_run Tryz.func119 rfl (by kernel_rfl) (by kernel_rfl) (by simp) (fun _ => rfl) (fun _ => rfl) 6 1000 ?_
  have w := pure146 (primW 0)
  rw [ix_0] at w
  simp +contextual (maxSteps := 2000000) (disch := ((try unfold LIM at *); omega)) only [↓bcT, ↓bcF, WA, simprocAttr, wrI]
  refine CallThen.pure w 1000 ?_
  simp +contextual (maxSteps := 2000000) (disch := ((try unfold LIM at *); omega)) only [↓bcT, ↓bcF, WA, simprocAttr, wrI, primT, List.length_cons, List.length_nil]
  try rfl
theorem w119_1 : PureV C 119 [.s (.string (primW 1))] (.s (.int .i64 (primT 1).1.length)) := by
  refine pure_of_run Tryz.func119 rfl (by kernel_rfl) (by kernel_rfl) (by simp) (fun _ => rfl) (fun _ => rfl) 6 1000 ?_
  have w := pure146 (primW 1)
  rw [ix_1] at w
  simp +contextual (maxSteps := 2000000) (disch := ((try unfold LIM at *); omega)) only [↓bcT, ↓bcF, WA, simprocAttr, wrI]
  refine CallThen.pure w 1000 ?_
  simp +contextual (maxSteps := 2000000) (disch := ((try unfold LIM at *); omega)) only [↓bcT, ↓bcF, WA, simprocAttr, wrI, primT, List.length_cons, List.length_nil]
  try rfl
theorem w119_2 : PureV C 119 [.s (.string (primW 2))] (.s (.int .i64 (primT 2).1.length)) := by
  refine pure_of_run Tryz.func119 rfl (by kernel_rfl) (by kernel_rfl) (by simp) (fun _ => rfl) (fun _ => rfl) 6 1000 ?_
  have w := pure146 (primW 2)
  rw [ix_2] at w
  simp +contextual (maxSteps := 2000000) (disch := ((try unfold LIM at *); omega)) only [↓bcT, ↓bcF, WA, simprocAttr, wrI]
  refine CallThen.pure w 1000 ?_
  simp +contextual (maxSteps := 2000000) (disch := ((try unfold LIM at *); omega)) only [↓bcT, ↓bcF, WA, simprocAttr, wrI, primT, List.length_cons, List.length_nil]
  try rfl
theorem w119_3 : PureV C 119 [.s (.string (primW 3))] (.s (.int .i64 (primT 3).1.length)) := by
  refine pure_of_run Tryz.func119 rfl (by kernel_rfl) (by kernel_rfl) (by simp) (fun _ => rfl) (fun _ => rfl) 6 1000 ?_
  have w := pure146 (primW 3)
  rw [ix_3] at w
  simp +contextual (maxSteps := 2000000) (disch := ((try unfold LIM at *); omega)) only [↓bcT, ↓bcF, WA, simprocAttr, wrI]
  refine CallThen.pure w 1000 ?_
  simp +contextual (maxSteps := 2000000) (disch := ((try unfold LIM at *); omega)) only [↓bcT, ↓bcF, WA, simprocAttr, wrI, primT, List.length_cons, List.length_nil]
  try rfl
theorem w119_4 : PureV C 119 [.s (.string (primW 4))] (.s (.int .i64 (primT 4).1.length)) := by
  refine pure_of_run Tryz.func119 rfl (by kernel_rfl) (by kernel_rfl) (by simp) (fun _ => rfl) (fun _ => rfl) 6 1000 ?_
  have w := pure146 (primW 4)
  rw [ix_4] at w
  simp +contextual (maxSteps := 2000000) (disch := ((try unfold LIM at *); omega)) only [↓bcT, ↓bcF, WA, simprocAttr, wrI]
  refine CallThen.pure w 1000 ?_
  simp +contextual (maxSteps := 2000000) (disch := ((try unfold LIM at *); omega)) only [↓bcT, ↓bcF, WA, simprocAttr, wrI, primT, List.length_cons, List.length_nil]
  try rfl
theorem w119_5 : PureV C 119 [.s (.string (primW 5))] (.s (.int .i64 (primT 5).1.length)) := by
  refine pure_of_run Tryz.func119 rfl (by kernel_rfl) (by kernel_rfl) (by simp) (fun _ => rfl) (fun _ => rfl) 6 1000 ?_
  have w := pure146 (primW 5)
  rw [ix_5] at w
  simp +contextual (maxSteps := 2000000) (disch := ((try unfold LIM at *); omega)) only [↓bcT, ↓bcF, WA, simprocAttr, wrI]
  refine CallThen.pure w 1000 ?_
  simp +contextual (maxSteps := 2000000) (disch := ((try unfold LIM at *); omega)) only [↓bcT, ↓bcF, WA, simprocAttr, wrI, primT, List.length_cons, List.length_nil]
  try rfl
theorem w119_6 : PureV C 119 [.s (.string (primW 6))] (.s (.int .i64 (primT 6).1.length)) := by
  refine pure_of_run Tryz.func119 rfl (by kernel_rfl) (by kernel_rfl) (by simp) (fun _ => rfl) (fun _ => rfl) 6 1000 ?_
  have w := pure146 (primW 6)
  rw [ix_6] at w
  simp +contextual (maxSteps := 2000000) (disch := ((try unfold LIM at *); omega)) only [↓bcT, ↓bcF, WA, simprocAttr, wrI]
  refine CallThen.pure w 1000 ?_
  simp +contextual (maxSteps := 2000000) (disch := ((try unfold LIM at *); omega)) only [↓bcT, ↓bcF, WA, simprocAttr, wrI, primT, List.length_cons, List.length_nil]
  try rfl
theorem w119_7 : PureV C 119 [.s (.string (primW 7))] (.s (.int .i64 (primT 7).1.length)) := by
  refine pure_of_run Tryz.func119 rfl (by kernel_rfl) (by kernel_rfl) (by simp) (fun _ => rfl) (fun _ => rfl) 6 1000 ?_
  have w := pure146 (primW 7)
  rw [ix_7] at w
  simp +contextual (maxSteps := 2000000) (disch := ((try unfold LIM at *); omega)) only [↓bcT, ↓bcF, WA, simprocAttr, wrI]
  refine CallThen.pure w 1000 ?_
  simp +contextual (maxSteps := 2000000) (disch := ((try unfold LIM at *); omega)) only [↓bcT, ↓bcF, WA, simprocAttr, wrI, primT, List.length_cons, List.length_nil]
  try rfl
theorem w119_8 : PureV C 119 [.s (.string (primW 8))] (.s (.int .i64 (primT 8).1.length)) := by
  refine pure_of_run Tryz.func119 rfl (by kernel_rfl) (by kernel_rfl) (by simp) (fun _ => rfl) (fun _ => rfl) 6 1000 ?_
  have w := pure146 (primW 8)
  rw [ix_8] at w
  simp +contextual (maxSteps := 2000000) (disch := ((try unfold LIM at *); omega)) only [↓bcT, ↓bcF, WA, simprocAttr, wrI]
  refine CallThen.pure w 1000 ?_
  simp +contextual (maxSteps := 2000000) (disch := ((try unfold LIM at *); omega)) only [↓bcT, ↓bcF, WA, simprocAttr, wrI, primT, List.length_cons, List.length_nil]
  try rfl
theorem w119_9 : PureV C 119 [.s (.string (primW 9))] (.s (.int .i64 (primT 9).1.length)) := by
  refine pure_of_run Tryz.func119 rfl (by kernel_rfl) (by kernel_rfl) (by simp) (fun _ => rfl) (fun _ => rfl) 6 1000 ?_
  have w := pure146 (primW 9)
  rw [ix_9] at w
  simp +contextual (maxSteps := 2000000) (disch := ((try unfold LIM at *); omega)) only [↓bcT, ↓bcF, WA, simprocAttr, wrI]
  refine CallThen.pure w 1000 ?_
  simp +contextual (maxSteps := 2000000) (disch := ((try unfold LIM at *); omega)) only [↓bcT, ↓bcF, WA, simprocAttr, wrI, primT, List.length_cons, List.length_nil]
  try rfl
theorem w119_10 : PureV C 119 [.s (.string (primW 10))] (.s (.int .i64 (primT 10).1.length)) := by
  refine pure_of_run Tryz.func119 rfl (by kernel_rfl) (by kernel_rfl) (by simp) (fun _ => rfl) (fun _ => rfl) 6 1000 ?_
  have w := pure146 (primW 10)
  rw [ix_10] at w
  simp +contextual (maxSteps := 2000000) (disch := ((try unfold LIM at *); omega)) only [↓bcT, ↓bcF, WA, simprocAttr, wrI]
  refine CallThen.pure w 1000 ?_
  simp +contextual (maxSteps := 2000000) (disch := ((try unfold LIM at *); omega)) only [↓bcT, ↓bcF, WA, simprocAttr, wrI, primT, List.length_cons, List.length_nil]
  try rfl
theorem w119_11 : PureV C 119 [.s (.string (primW 11))] (.s (.int .i64 (primT 11).1.length)) := by
  refine pure_of_run Tryz.func119 rfl (by kernel_rfl) (by kernel_rfl) (by simp) (fun _ => rfl) (fun _ => rfl) 6 1000 ?_
  have w := pure146 (primW 11)
  rw [ix_11] at w
  simp +contextual (maxSteps := 2000000) (disch := ((try unfold LIM at *); omega)) only [↓bcT, ↓bcF, WA, simprocAttr, wrI]
  refine CallThen.pure w 1000 ?_
  simp +contextual (maxSteps := 2000000) (disch := ((try unfold LIM at *); omega)) only [↓bcT, ↓bcF, WA, simprocAttr, wrI, primT, List.length_cons, List.length_nil]
  try rfl
theorem w119_12 : PureV C 119 [.s (.string (primW 12))] (.s (.int .i64 (primT 12).1.length)) := by
  refine pure_of_run Tryz.func119 rfl (by kernel_rfl) (by kernel_rfl) (by simp) (fun _ => rfl) (fun _ => rfl) 6 1000 ?_
  have w := pure146 (primW 12)
  rw [ix_12] at w
  simp +contextual (maxSteps := 2000000) (disch := ((try unfold LIM at *); omega)) only [↓bcT, ↓bcF, WA, simprocAttr, wrI]
  refine CallThen.pure w 1000 ?_
  simp +contextual (maxSteps := 2000000) (disch := ((try unfold LIM at *); omega)) only [↓bcT, ↓bcF, WA, simprocAttr, wrI, primT, List.length_cons, List.length_nil]
  try rfl
theorem w119_13 : PureV C 119 [.s (.string (primW 13))] (.s (.int .i64 (primT 13).1.length)) := by
  refine pure_of_run Tryz.func119 rfl (by kernel_rfl) (by kernel_rfl) (by simp) (fun _ => rfl) (fun _ => rfl) 6 1000 ?_
  have w := pure146 (primW 13)
  rw [ix_13] at w
  simp +contextual (maxSteps := 2000000) (disch := ((try unfold LIM at *); omega)) only [↓bcT, ↓bcF, WA, simprocAttr, wrI]
  refine CallThen.pure w 1000 ?_
  simp +contextual (maxSteps := 2000000) (disch := ((try unfold LIM at *); omega)) only [↓bcT, ↓bcF, WA, simprocAttr, wrI, primT, List.length_cons, List.length_nil]
  try rfl
theorem walk119 : ∀ p : Nat, p < 14 → PureV C 119 [.s (.string (primW p))] (.s (.int .i64 (primT p).1.length))
  | 0, _ => w119_0
  | 1, _ => w119_1
  | 2, _ => w119_2
  | 3, _ => w119_3
  | 4, _ => w119_4
  | 5, _ => w119_5
  | 6, _ => w119_6
  | 7, _ => w119_7
  | 8, _ => w119_8
  | 9, _ => w119_9
  | 10, _ => w119_10
  | 11, _ => w119_11
  | 12, _ => w119_12
  | 13, _ => w119_13
  | n + 14, h => by omega
end Go.Proofs.YtlhkfjannhhcbaaGreatDoor
/- part N2 -/
set_option linter.unusedVariables false
set_option linter.unusedSimpArgs false
set_option maxRecDepth 100000
namespace Go.Proofs.YtlhkfjannhhcbaaGreatDoor
open Go Go.W Go.RowKit
theorem w149_11 (n : Int) (r : List Int) (hr : r.length ≤ 16) : PureV C 149 [.s (.int .i64 11), .f 3 [valV ⟨3, n, r⟩]] (.tup [.agg (valV (intE r.length)), .s (.int .i64 0)]) := by
  refine pure_of_run Tryz.func149 rfl (by kernel_rfl) (by kernel_rfl) (by simp) (fun _ => rfl) (fun _ => rfl) 6 1000 ?_
  simp +contextual (maxSteps := 2000000) (disch := ((try unfold LIM at *); omega)) only [↓bcT, ↓bcF, WA, simprocAttr, wrI, valV_3, List.length_map]
  intro _
  refine CallThen.pure (walk85 _) 1000 ?_
  simp +contextual (maxSteps := 2000000) (disch := ((try unfold LIM at *); omega)) only [↓bcT, ↓bcF, WA, simprocAttr, wrI, valV_int]
theorem w149_10 (n : Int) (r : List Int) (k : Nat) (x : Int) (hr : r.length ≤ 16) (hx : r[k]? = some x) : PureV C 149 [.s (.int .i64 10), .f 3 [valV ⟨3, n, r⟩, valV (intE k)]] (.tup [.agg (valV (intE x)), .s (.int .i64 0)]) := by
  refine pure_of_run Tryz.func149 rfl (by kernel_rfl) (by kernel_rfl) (by simp) (fun _ => rfl) (fun _ => rfl) 6 1000 ?_
  have hk : k < r.length := (List.getElem?_eq_some_iff.1 hx).1
  have p0 : (0 : Int) ≤ k := by omega
  have p1 : (k : Int) < r.length := by omega
  have p2 : ¬ (k : Int) < 0 := by omega
  have p3 : ¬ (r.length : Int) ≤ k := by omega
  have hxv : (r.map iV)[k]? = some (iV x) := by rw [List.getElem?_map, hx]; rfl
  simp +contextual (maxSteps := 2000000) (disch := ((try unfold LIM at *); omega)) only [↓bcT, ↓bcF, WA, simprocAttr, wrI, valV_int, valV_3, List.length_map, p0, p1, p2, p3, hxv, iV]
  intros
  refine CallThen.pure (walk85 _) 1000 ?_
  simp +contextual (maxSteps := 2000000) (disch := ((try unfold LIM at *); omega)) only [↓bcT, ↓bcF, WA, simprocAttr, wrI, valV_int]
theorem w149_10z (n : Int) (r : List Int) (i : Int) (hr : r.length ≤ 16) (hi : ¬ (0 ≤ i ∧ i < r.length)) : PureV C 149 [.s (.int .i64 10), .f 3 [valV ⟨3, n, r⟩, valV (intE i)]] (.tup [.agg (valV zeroE), .s (.int .i64 2)]) := by
  refine pure_of_run Tryz.func149 rfl (by kernel_rfl) (by kernel_rfl) (by simp) (fun _ => rfl) (fun _ => rfl) 6 1000 ?_
  by_cases h : i < 0
  · simp +contextual (maxSteps := 2000000) (disch := ((try unfold LIM at *); omega)) only [↓bcT, ↓bcF, WA, simprocAttr, wrI, valV_int, valV_3, valV_0, List.length_map, h]
  · have h2 : (r.length : Int) ≤ i := by omega
    simp +contextual (maxSteps := 2000000) (disch := ((try unfold LIM at *); omega)) only [↓bcT, ↓bcF, WA, simprocAttr, wrI, valV_int, valV_3, valV_0, List.length_map, h, h2]
    try (intros; rfl)
theorem w149_12z (n : Int) (r : List Int) (i c : Int) (hr : r.length ≤ 16) (hi : ¬ (0 ≤ i ∧ i < r.length)) : PureV C 149 [.s (.int .i64 12), .f 3 [valV ⟨3, n, r⟩, valV (intE i), valV (intE c)]] (.tup [.agg (valV zeroE), .s (.int .i64 2)]) := by
  refine pure_of_run Tryz.func149 rfl (by kernel_rfl) (by kernel_rfl) (by simp) (fun _ => rfl) (fun _ => rfl) 6 1000 ?_
  by_cases h : i < 0
  · simp +contextual (maxSteps := 2000000) (disch := ((try unfold LIM at *); omega)) only [↓bcT, ↓bcF, WA, simprocAttr, wrI, valV_int, valV_3, valV_0, List.length_map, h]
  · have h2 : (r.length : Int) ≤ i := by omega
    simp +contextual (maxSteps := 2000000) (disch := ((try unfold LIM at *); omega)) only [↓bcT, ↓bcF, WA, simprocAttr, wrI, valV_int, valV_3, valV_0, List.length_map, h, h2]
    try (intros; rfl)
theorem iv_rn (ρ : Nat → Nat) (l : List Int) : (l.map iV).map (fun el => el.map (rnC ρ)) = l.map iV := congrArg Blk.els (rnB_iV ρ l 0)
theorem own122 (l : List Int) (cap : Nat) : CallsV C 122 [.sl 0 0 l.length cap] [⟨l.map iV, 1, cap, true⟩] fun res h' => res = .ret (.agg [.s (.int .i64 3), .s (.int .i64 0), .sl 0 0 l.length cap]) ∧ h' = [⟨l.map iV, 1, cap, true⟩] := by
  refine calls_of_run Tryz.func122 rfl (by kernel_rfl) (by kernel_rfl) (by simp) 1000 ?_
  simp +contextual (maxSteps := 2000000) (disch := ((try unfold LIM at *); omega)) only [↓bcT, ↓bcF, WA, simprocAttr, wrI]
  exact Up.gcF (.agg [.s (.int .i64 3), .s (.int .i64 0), .sl 0 0 l.length cap]) [] [] [0] [⟨l.map iV, 1, cap, true⟩] (by simp) rfl ⟨.inl ⟨nrs_map iV_nr _, rfl⟩, trivial⟩ rfl ⟨rfl, rfl⟩
theorem w149_12 (n : Int) (r : List Int) (k : Nat) (c : Int) (hr : r.length ≤ 16) (hk : k < r.length) : PureV C 149 [.s (.int .i64 12), .f 3 [valV ⟨3, n, r⟩, valV (intE k), valV (intE c)]] (.tup [.agg (valV (rowE (r.set k c))), .s (.int .i64 0)]) := by
  refine pure_of_run Tryz.func149 rfl (by kernel_rfl) (by kernel_rfl) (by simp) (fun _ => rfl) (fun _ => rfl) 6 1000 ?_
  have p0 : (0 : Int) ≤ k := by omega
  have p1 : (k : Int) < r.length := by omega
  have p2 : ¬ (k : Int) < 0 := by omega
  have p3 : ¬ (r.length : Int) ≤ k := by omega
  have hset : (r.map iV).set k [V.s (.int .i64 c)] = (r.set k c).map iV := by rw [List.map_set]; rfl
  have hlen : (r.map iV).length = r.length := by simp
  obtain ⟨w, hw⟩ : ∃ w, r[k]? = some w := ⟨r[k], List.getElem?_eq_getElem hk⟩
  simp +contextual (maxSteps := 2000000) (disch := ((try unfold LIM at *); omega)) only [↓bcT, ↓bcF, WA, simprocAttr, wrI, valV_int, valV_3, List.length_map, p0, p1, p2, p3, hset, hw, Option.map_some, iV, leafs_map iV_ok, takeTo, List.take_length, take_map_len, Nat.zero_add]
  intro _
  refine ⟨by omega, fun cap' h1 _ => ?_⟩
  refine CallThen.top 1 (by simp) (by simp) 6 (args' := [.f 1 ((r.set k c).map iV)]) ⟨.inr ?_, trivial⟩ ?_
  · simp +contextual (maxSteps := 2000000) (disch := ((try unfold LIM at *); omega)) only [↓bcT, ↓bcF, WA, simprocAttr, wrI, List.length_map, List.length_set]
    rw [List.take_of_length_le (by simp), iV_frz]
  refine CallThen.pure (walk122 _) 1000 ?_
  simp +contextual (maxSteps := 2000000) (disch := ((try unfold LIM at *); omega)) only [↓bcT, ↓bcF, WA, simprocAttr, wrI, killFrom_eq, valV_row]
theorem w149_13z (n m : Int) (p q : List Int) (hp : p.length ≤ 16) (hq : q.length ≤ 16) (h : 16 < p.length + q.length) : PureV C 149 [.s (.int .i64 13), .f 3 [valV ⟨3, n, p⟩, valV ⟨3, m, q⟩]] (.tup [.agg (valV zeroE), .s (.int .i64 3)]) := by
  refine pure_of_run Tryz.func149 rfl (by kernel_rfl) (by kernel_rfl) (by simp) (fun _ => rfl) (fun _ => rfl) 6 1000 ?_
  have c1 : (16 : Int) < (p.length : Int) + q.length := by omega
  simp +contextual (maxSteps := 2000000) (disch := ((try unfold LIM at *); omega)) only [↓bcT, ↓bcF, WA, simprocAttr, wrI, valV_int, valV_3, valV_0, List.length_map, c1]
  try (intros; rfl)
theorem w149_13 (n m : Int) (p q : List Int) (hp : p.length ≤ 16) (hq : q.length ≤ 16) (h : p.length + q.length ≤ 16) : PureV C 149 [.s (.int .i64 13), .f 3 [valV ⟨3, n, p⟩, valV ⟨3, m, q⟩]] (.tup [.agg (valV (rowE (p ++ q))), .s (.int .i64 0)]) := by
  refine pure_of_run Tryz.func149 rfl (by kernel_rfl) (by kernel_rfl) (by simp) (fun _ => rfl) (fun _ => rfl) 6 1000 ?_
  have c1 : ¬ (16 : Int) < (p.length : Int) + q.length := by omega
  simp +contextual (maxSteps := 2000000) (disch := ((try unfold LIM at *); omega)) only [↓bcT, ↓bcF, WA, simprocAttr, wrI, valV_int, valV_3, valV_0, List.length_map, c1]
  intros
  refine DrawThen.of 1000 [0] (.old 1 (.old 3 (.old 4 (.old 5 (.old 6 (.go 0 (.go 2 (.go 7 (.go 8 (.go 9 (.old 10 .done))))))))))) (fun _ _ _ _ q => q) (by kernel_rfl) (by kernel_rfl) (by kernel_rfl) ?_
  simp +contextual (maxSteps := 2000000) (disch := ((try unfold LIM at *); omega)) only [↓bcT, ↓bcF, WA, simprocAttr, wrI, List.length_map, leafs_map iV_ok, takeTo, List.take_length, take_map_len, Nat.zero_add, valV_row]
  refine ⟨⟨by omega, by unfold LIM; omega⟩, fun cap' h1 _ => ⟨⟨by omega, by unfold LIM; omega⟩, fun cap2 h2 _ => ?_⟩⟩
  rw [← List.map_append, show p.length + q.length = (p ++ q).length by simp]
  refine DCall.of 1000 (.go 9 (.old 10 .done)) (by kernel_rfl) (CallsV.frameL (own122 (p ++ q) cap2) [_] _ (by simp) ⟨.inl ⟨nrs_map iV_nr _, rfl⟩, trivial⟩ rfl) fun res h' ⟨r, h1, ⟨e1, e2⟩, e3, e4, e5⟩ => ?_
  subst e1; subst e2; subst e4; subst e5
  simp +contextual (maxSteps := 2000000) (disch := ((try unfold LIM at *); omega)) only [↓bcT, ↓bcF, WA, simprocAttr, wrI, rnRes, WB9]
  try simp +contextual (maxSteps := 2000000) (disch := ((try unfold LIM at *); omega)) only [↓bcT, ↓bcF, WA, simprocAttr, wrI, List.length_map, leafs_map iV_ok, takeTo, List.take_length, take_map_len, Nat.zero_add, valV_row]
  repeat' apply And.intro
  all_goals
    rw [iv_rn, List.take_of_length_le (by simp), iV_frz]
end Go.Proofs.YtlhkfjannhhcbaaGreatDoor
/- part N3 -/
set_option linter.unusedVariables false
set_option linter.unusedSimpArgs false
set_option maxRecDepth 100000
namespace Go.Proofs.YtlhkfjannhhcbaaGreatDoor
open Go Go.W Go.RowKit
def ovE (o : Option Stop) : Int := match o with
  | none => 0
  | some e => e.1
def ovT (o : Option Stop) : Int := match o with
  | none => 0
  | some e => e.2
def pB (m : Img) (fuel : Nat) (mc : Mc) (o : Option Stop) (rs es : List Int) : Blk := ⟨[[.f 6 (m.funs.map fnV), .f 1 (m.mains.map iV), .s (.int .i64 ((fuel : Int) - mc.steps)), .s (.int .i64 (ovE o)), .s (.int .i64 (ovT o)), .l 1 (mc.out.map iV), .s (.int .i64 mc.steps), .s (.bool o.isSome), .l 1 (mc.high.map iV), .l 1 (rs.map iV), .l 1 (es.map iV)]], 11, 1, true⟩
def fS (fr : Fr) : Blk := ⟨[[.l 3 (fr.stack.map valV), .l 3 (fr.slots.map valV)]], 2, 1, true⟩
theorem p_nr (m : Img) (fuel : Nat) (mc : Mc) (o : Option Stop) (rs es : List Int) : nrs (pB m fuel mc o rs es).els = true := rfl
theorem fS_nr (fr : Fr) : nrs (fS fr).els = true := rfl
theorem rnB_p (ρ : Nat → Nat) (m : Img) (fuel : Nat) (mc : Mc) (o : Option Stop) (rs es : List Int) : rnB ρ (pB m fuel mc o rs es) = pB m fuel mc o rs es := nrs_rn _ (p_nr ..)
theorem rnB_fS (ρ : Nat → Nat) (fr : Fr) : rnB ρ (fS fr) = fS fr := nrs_rn _ (fS_nr fr)
def stopO (o : Option Stop) (e : Stop) : Option Stop := match o with
  | none => some e
  | some x => some x
theorem edit42 (m : Img) (fuel : Nat) (mc : Mc) (o : Option Stop) (rs es : List Int) (e t : Int) : EditV C 42 [.ptr 0 0 0, .s (.int .i64 e), .s (.int .i64 t)] [pB m fuel mc o rs es] (.tup []) [pB m fuel mc (stopO o (e, t)) rs es] := by
  refine ⟨fun _ => rfl, rfl, ?_⟩
  refine calls_of_run Tryz.func42 rfl (by kernel_rfl) (by kernel_rfl) (by simp) 1000 ?_
  cases o with
  | none =>
    simp +contextual (maxSteps := 2000000) (disch := ((try unfold LIM at *); omega)) only [↓bcT, ↓bcF, WA, simprocAttr, wrI, pB, Option.isSome_none]
    exact Up.refl ⟨rfl, rfl⟩
  | some x =>
    simp +contextual (maxSteps := 2000000) (disch := ((try unfold LIM at *); omega)) only [↓bcT, ↓bcF, WA, simprocAttr, wrI, pB, Option.isSome_some]
    exact Up.refl ⟨rfl, rfl⟩
section
variable {N n0 : Nat} {Q : QT} {k : List It} {τ : Tau} {h : H} {dst : Option Nat}
theorem CallThen.stop {m0 : Img} {fuel : Nat} {mc : Mc} {o : Option Stop} {rs es : List Int} {e t : Int} (rest : H) (eh : h = pB m0 fuel mc o rs es :: rest) {args' : List V} (ha : args' = [.ptr 0 0 0, .s (.int .i64 e), .s (.int .i64 t)]) (m : Nat)
    (hr : Run C N n0 m Q k (upo dst (.tup []) τ) (pB m0 fuel mc (stopO o (e, t)) rs es :: rest)) : CallThen C N n0 Q 42 args' dst k τ h := by
  subst eh; subst ha
  refine CallThen.edit (edit42 m0 fuel mc o rs es e t) [0] (by simp) ⟨.inl ⟨p_nr .., rfl⟩, trivial⟩ rfl m ?_
  show Run _ _ _ _ _ _ _ (setAll (pB m0 fuel mc (stopO o (e, t)) rs es :: rest) [] [])
  rw [setAll_nil, List.append_nil]
  exact hr
end
theorem fold2 {els : List (List V)} {X : Blk} {y : V} {len cap : Nat} (hl : els.length = len) (hn : nrs els = true) :
    folds [X, ⟨[[.sl 2 0 len cap, y]], 2, 1, true⟩, ⟨els, 3, cap, true⟩] [(1, 0, 0)] = [X, ⟨[[.l 3 els, y]], 2, 1, true⟩, Blk.dead] := by
  simp [folds, foldC, foldK, rdC, rdB, refB, ownOf, elsB, wrH, wrB, wrE, wrL, shrinks, shr1, gcL, hl, hn]
theorem fold2s {els els' : List (List V)} {X B C : Blk} {y : V} {len cap : Nat} (he : els.take len = els') (hl : els'.length = len) (hn : nrs els' = true) :
    folds (shrinks [X, ⟨[[.sl 2 0 len cap, y]], 2, 1, true⟩, ⟨els, 3, cap, true⟩, B, C] [(2, len)]) [(1, 0, 0)] = [X, ⟨[[.l 3 els', y]], 2, 1, true⟩, Blk.dead, B, C] := by
  simp [folds, foldC, foldK, rdC, rdB, refB, ownOf, elsB, wrH, wrB, wrE, wrL, shrinks, shr1, gcL, he, hl, hn]
theorem fold3 {els : List (List V)} {X B : Blk} {y : V} {len cap : Nat} (hl : els.length = len) (hn : nrs els = true) :
    folds [X, ⟨[[.sl 3 0 len cap, y]], 2, 1, true⟩, B, ⟨els, 3, cap, true⟩] [(1, 0, 0)] = [X, ⟨[[.l 3 els, y]], 2, 1, true⟩, B, Blk.dead] := by
  simp [folds, foldC, foldK, rdC, rdB, refB, ownOf, elsB, wrH, wrB, wrE, wrL, shrinks, shr1, gcL, hl, hn]
theorem fold5 {els : List (List V)} {X B C D : Blk} {y : V} {len cap : Nat} (hl : els.length = len) (hn : nrs els = true) :
    folds [X, ⟨[[.sl 5 0 len cap, y]], 2, 1, true⟩, B, C, D, ⟨els, 3, cap, true⟩] [(1, 0, 0)] = [X, ⟨[[.l 3 els, y]], 2, 1, true⟩, B, C, D, Blk.dead] := by
  simp [folds, foldC, foldK, rdC, rdB, refB, ownOf, elsB, wrH, wrB, wrE, wrL, shrinks, shr1, gcL, hl, hn]
def popS (m : Img) (fuel : Nat) (mc : Mc) (o : Option Stop) (rs es : List Int) (fr : Fr) (n : Nat) (res : Res) (h' : H) : Prop :=
  if fr.stack.length < n then res = .ret .z ∧ h' = [pB m fuel mc (stopO o (3, 0)) rs es, fS fr]
  else ∃ cap, n ≤ cap ∧ res = .ret (.sl 2 0 n cap) ∧ h' = [pB m fuel mc o rs es, fS ⟨fr.pc, fr.stack.take (fr.stack.length - n), fr.slots⟩, ⟨(fr.stack.drop (fr.stack.length - n)).map valV, 3, cap, true⟩]
theorem calls83 (m : Img) (fuel : Nat) (mc : Mc) (o : Option Stop) (rs es : List Int) (fr : Fr) (n : Nat) (hl : fr.stack.length ≤ 100) (hn : n ≤ 1000) : CallsV C 83 [.ptr 0 0 0, .ptr 1 0 0, .s (.int .i64 n)] [pB m fuel mc o rs es, fS fr] (popS m fuel mc o rs es fr n) := by
  refine calls_of_run Tryz.func83 rfl (by kernel_rfl) (by kernel_rfl) (by simp) 1000 ?_
  obtain ⟨pc, st, sl⟩ := fr
  simp only at hl
  by_cases c : st.length < n
  · have c' : (st.length : Int) < n := by omega
    simp +contextual (maxSteps := 2000000) (disch := ((try unfold LIM at *); omega)) only [↓bcT, ↓bcF, WA, simprocAttr, wrI, fS, List.length_map, c']
    intro cap hc
    refine CallThen.stop (m0 := m) (fuel := fuel) (mc := mc) (o := o) (rs := rs) (es := es) _ rfl rfl 1000 ?_
    simp +contextual (maxSteps := 2000000) (disch := ((try unfold LIM at *); omega)) only [↓bcT, ↓bcF, WA, simprocAttr, wrI]
    refine Up.gcF .z [] [(1, 0, 0)] [0, 1] [pB m fuel mc (stopO o (3, 0)) rs es, fS ⟨pc, st, sl⟩] (by simp) rfl ?_ rfl (by unfold popS; rw [if_pos c]; exact ⟨rfl, rfl⟩)
    rw [shrinks_nil, fold2 (by simp) (nrs_map valV_nr st)]
    exact ⟨.inl ⟨p_nr .., rfl⟩, .inl ⟨fS_nr _, rfl⟩, trivial⟩
  · have c' : ¬ (st.length : Int) < n := by omega
    obtain ⟨j, hj⟩ : ∃ j, st.length = j + n := ⟨st.length - n, by omega⟩
    have j1 : (st.length : Int) - n = j := by omega
    have j0 : (0 : Int) ≤ j := by omega
    have j2 : (j : Int) ≤ st.length := by omega
    by_cases c0 : n = 0
    · have j3 : ¬ (j : Int) < st.length := by omega
      simp +contextual (maxSteps := 2000000) (disch := ((try unfold LIM at *); omega)) only [↓bcT, ↓bcF, WA, simprocAttr, wrI, fS, List.length_map, c', j1, j0, j2, j3, leafs_map valV_ok, takeTo, Nat.zero_add]
      intro cap hc
      have n0 : st.length = j := by omega
      refine ⟨by unfold LIM; omega, fun cap' _ e' => ⟨by omega, ?_⟩⟩
      refine Up.gcF (.sl 2 0 0 0) [(2, j)] [(1, 0, 0)] [0, 1, 4] [pB m fuel mc o rs es, fS ⟨pc, st.take (st.length - n), sl⟩, ⟨(st.drop (st.length - n)).map valV, 3, 0, true⟩] (by simp) rfl ?_ rfl ?_
      · rw [fold2s (els' := (st.take (st.length - n)).map valV) (by rw [List.map_take]; congr 1; omega) (by simp; omega) (nrs_map valV_nr _)]
        refine ⟨.inl ⟨p_nr .., rfl⟩, .inl ⟨fS_nr _, rfl⟩, .inl ⟨nrs_map valV_nr _, ?_⟩, trivial⟩
        rw [List.drop_eq_nil_of_le (by omega)]; rfl
      · unfold popS; rw [if_neg c]; exact ⟨0, by omega, by rw [c0], rfl⟩
    · have j3 : (j : Int) < st.length := by omega
      have j4 : j + (st.length - j) ≤ st.length := by omega
      have hd : List.take (st.length - j) (List.drop j (st.map valV)) = (st.drop j).map valV := by rw [← List.map_drop, ← List.map_take, List.take_of_length_le (by simp)]
      simp +contextual (maxSteps := 2000000) (disch := ((try unfold LIM at *); omega)) only [↓bcT, ↓bcF, WA, simprocAttr, wrI, fS, List.length_map, c', j1, j0, j2, j3, leafs_map valV_ok, takeTo, Nat.zero_add, j4, hd, List.length_drop]
      intro cap hc
      refine ⟨⟨by omega, by unfold LIM; omega⟩, fun cap' h1 _ => ⟨by omega, ?_⟩⟩
      refine Up.gcF (.sl 2 0 n cap') [(2, j)] [(1, 0, 0)] [0, 1, 4] [pB m fuel mc o rs es, fS ⟨pc, st.take (st.length - n), sl⟩, ⟨(st.drop (st.length - n)).map valV, 3, cap', true⟩] (by simp) rfl ?_ ?_ ?_
      · rw [fold2s (els' := (st.take (st.length - n)).map valV) (by rw [List.map_take]; congr 1; omega) (by simp; omega) (nrs_map valV_nr _)]
        refine ⟨.inl ⟨p_nr .., rfl⟩, .inl ⟨fS_nr _, rfl⟩, .inl ⟨nrs_map valV_nr _, ?_⟩, trivial⟩
        rw [show st.length - n = j by omega]; rfl
      · rw [show st.length - j = n by omega]; rfl
      · unfold popS; rw [if_neg c]; exact ⟨cap', by omega, rfl, rfl⟩
theorem edit84 (m : Img) (fuel : Nat) (mc : Mc) (o : Option Stop) (rs es : List Int) (fr : Fr) (v : Val) (hl : fr.stack.length ≤ 100) : CallsV C 84 [.ptr 0 0 0, .ptr 1 0 0, .agg (valV v)] [pB m fuel mc o rs es, fS fr] fun res h' => res = .ret (.tup []) ∧ h' = match pushM fr.stack v with
    | none => [pB m fuel mc (stopO o (3, 0)) rs es, fS fr]
    | some st => [pB m fuel mc o rs es, fS ⟨fr.pc, st, fr.slots⟩] := by
  refine calls_of_run Tryz.func84 rfl (by kernel_rfl) (by kernel_rfl) (by simp) 1000 ?_
  obtain ⟨pc, st, sl⟩ := fr
  simp only at hl
  simp only [valV]
  by_cases c1 : (100 : Int) ≤ st.length
  · have e : pushM st v = none := by
      have : 100 ≤ st.length := by omega
      simp [pushM, this]
    simp only [e]
    simp +contextual (maxSteps := 2000000) (disch := ((try unfold LIM at *); omega)) only [↓bcT, ↓bcF, WA, simprocAttr, wrI, fS, List.length_map, c1, rowV_cellOk, rowV_nr, rowV_rn]
    intro cap hc
    refine CallThen.stop (m0 := m) (fuel := fuel) (mc := mc) (o := o) (rs := rs) (es := es) _ rfl rfl 1000 ?_
    simp +contextual (maxSteps := 2000000) (disch := ((try unfold LIM at *); omega)) only [↓bcT, ↓bcF, WA, simprocAttr, wrI]
    refine Up.gcF (.tup []) [] [(1, 0, 0)] [0, 1] [pB m fuel mc (stopO o (3, 0)) rs es, fS ⟨pc, st, sl⟩] (by simp) rfl ?_ rfl ⟨rfl, rfl⟩
    rw [shrinks_nil, fold3 (by simp) (nrs_map valV_nr st)]
    exact ⟨.inl ⟨p_nr .., rfl⟩, .inl ⟨fS_nr _, rfl⟩, trivial⟩
  · have e : pushM st v = some (st ++ [v]) := by
      have : ¬ 100 ≤ st.length := by omega
      simp [pushM, this]
    simp only [e]
    simp +contextual (maxSteps := 2000000) (disch := ((try unfold LIM at *); omega)) only [↓bcT, ↓bcF, WA, simprocAttr, wrI, fS, List.length_map, c1, rowV_cellOk, rowV_nr, rowV_rn]
    intro cap hc
    refine DrawThen.of 1000 [1, 3] (.old 0 (.old 1 (.old 2 (.old 3 (.old 5 (.or 4 (.go 6 (.go 7 (.old 8 (.old 9 (.go 10 .done))))) (.go 6 (.go 4 (.go 7 (.old 8 (.old 9 (.go 10 .done)))))))))))) (panFree_body _ _) (by kernel_rfl) (by kernel_rfl) (by kernel_rfl) ?_
    simp +contextual (maxSteps := 2000000) (disch := ((try unfold LIM at *); omega)) only [↓bcT, ↓bcF, WA, simprocAttr, wrI, List.length_map, c1, rowV_cellOk, rowV_nr, rowV_rn]
    repeat' apply And.intro
    all_goals
      first
      | omega
      | (unfold LIM; omega)
      | (intro cap' h1 _
         refine Up.gcF (.tup []) [] [(1, 0, 0)] [0, 1] [pB m fuel mc o rs es, fS ⟨pc, st ++ [v], sl⟩] (by simp) rfl ?_ rfl ⟨rfl, rfl⟩
         have hn : nrs (st.map valV ++ [valV v]) = true := by
           have := nrs_map valV_nr (st ++ [v]); simpa using this
         simp only [shrinks_nil, valV] at hn ⊢
         rw [fold5 (by simp) hn]
         exact ⟨.inl ⟨p_nr .., rfl⟩, .inl ⟨fS_nr _, by simp [fS, valV]⟩, trivial⟩)
end Go.Proofs.YtlhkfjannhhcbaaGreatDoor
/- part N4 -/
set_option linter.unusedVariables false
set_option linter.unusedSimpArgs false
set_option maxRecDepth 100000
namespace Go.Proofs.YtlhkfjannhhcbaaGreatDoor
open Go Go.W Go.RowKit
theorem w121_8 (a : Int) : PureV C 121 [.s (.string (primW 8)), .f 3 [valV ⟨2, a, []⟩]] (.tup [.agg (valV (boolE (decide (a = 0)))), .s (.int .i64 0)]) := by
  refine pure_of_run Tryz.func121 rfl (by kernel_rfl) (by kernel_rfl) (by simp) (fun _ => rfl) (fun _ => rfl) 6 1000 ?_
  have w := pure146 (primW 8)
  rw [ix_8] at w
  simp +contextual (maxSteps := 2000000) (disch := ((try unfold LIM at *); omega)) only [↓bcT, ↓bcF, WA, simprocAttr, wrI]
  refine CallThen.pure w 1000 ?_
  simp +contextual (maxSteps := 2000000) (disch := ((try unfold LIM at *); omega)) only [↓bcT, ↓bcF, WA, simprocAttr, wrI, valV_2]
  refine CallThen.pure (walk86 _) 1000 ?_
  simp +contextual (maxSteps := 2000000) (disch := ((try unfold LIM at *); omega)) only [↓bcT, ↓bcF, WA, simprocAttr, wrI, valV, boolE, rowV2]
theorem w121_13 (a : Int) : PureV C 121 [.s (.string (primW 13)), .f 3 [valV (intE a)]] (.tup [.agg (valV (intE a)), .s (.int .i64 0)]) := by
  refine pure_of_run Tryz.func121 rfl (by kernel_rfl) (by kernel_rfl) (by simp) (fun _ => rfl) (fun _ => rfl) 6 1000 ?_
  have w := pure146 (primW 13)
  rw [ix_13] at w
  simp +contextual (maxSteps := 2000000) (disch := ((try unfold LIM at *); omega)) only [↓bcT, ↓bcF, WA, simprocAttr, wrI]
  refine CallThen.pure w 1000 ?_
  simp +contextual (maxSteps := 2000000) (disch := ((try unfold LIM at *); omega)) only [↓bcT, ↓bcF, WA, simprocAttr, wrI, valV_int]
  refine CallThen.pure (walk85 _) 1000 ?_
  simp +contextual (maxSteps := 2000000) (disch := ((try unfold LIM at *); omega)) only [↓bcT, ↓bcF, WA, simprocAttr, wrI, valV_int]
theorem w121_9 (n : Int) (r : List Int) (k : Nat) (x : Int) (hr : r.length ≤ 16) (hx : r[k]? = some x) : PureV C 121 [.s (.string (primW 9)), .f 3 [valV ⟨3, n, r⟩, valV (intE k)]] (.tup [.agg (valV (intE x)), .s (.int .i64 0)]) := by
  refine pure_of_run Tryz.func121 rfl (by kernel_rfl) (by kernel_rfl) (by simp) (fun _ => rfl) (fun _ => rfl) 6 1000 ?_
  have w := pure146 (primW 9)
  rw [ix_9] at w
  simp +contextual (maxSteps := 2000000) (disch := ((try unfold LIM at *); omega)) only [↓bcT, ↓bcF, WA, simprocAttr, wrI]
  refine CallThen.pure w 1000 ?_
  simp +contextual (maxSteps := 2000000) (disch := ((try unfold LIM at *); omega)) only [↓bcT, ↓bcF, WA, simprocAttr, wrI]
  refine CallThen.pure (w149_10 n r k x hr hx) 1000 ?_
  simp +contextual (maxSteps := 2000000) (disch := ((try unfold LIM at *); omega)) only [↓bcT, ↓bcF, WA, simprocAttr, wrI, valV_int, valV_3, valV_0, valV_row]
theorem w121_9z (n : Int) (r : List Int) (i : Int) (hr : r.length ≤ 16) (hi : ¬ (0 ≤ i ∧ i < r.length)) : PureV C 121 [.s (.string (primW 9)), .f 3 [valV ⟨3, n, r⟩, valV (intE i)]] (.tup [.agg (valV (zeroE)), .s (.int .i64 2)]) := by
  refine pure_of_run Tryz.func121 rfl (by kernel_rfl) (by kernel_rfl) (by simp) (fun _ => rfl) (fun _ => rfl) 6 1000 ?_
  have w := pure146 (primW 9)
  rw [ix_9] at w
  simp +contextual (maxSteps := 2000000) (disch := ((try unfold LIM at *); omega)) only [↓bcT, ↓bcF, WA, simprocAttr, wrI]
  refine CallThen.pure w 1000 ?_
  simp +contextual (maxSteps := 2000000) (disch := ((try unfold LIM at *); omega)) only [↓bcT, ↓bcF, WA, simprocAttr, wrI]
  refine CallThen.pure (w149_10z n r i hr hi) 1000 ?_
  simp +contextual (maxSteps := 2000000) (disch := ((try unfold LIM at *); omega)) only [↓bcT, ↓bcF, WA, simprocAttr, wrI, valV_int, valV_3, valV_0, valV_row]
theorem w121_10 (n : Int) (r : List Int) (hr : r.length ≤ 16) : PureV C 121 [.s (.string (primW 10)), .f 3 [valV ⟨3, n, r⟩]] (.tup [.agg (valV (intE r.length)), .s (.int .i64 0)]) := by
  refine pure_of_run Tryz.func121 rfl (by kernel_rfl) (by kernel_rfl) (by simp) (fun _ => rfl) (fun _ => rfl) 6 1000 ?_
  have w := pure146 (primW 10)
  rw [ix_10] at w
  simp +contextual (maxSteps := 2000000) (disch := ((try unfold LIM at *); omega)) only [↓bcT, ↓bcF, WA, simprocAttr, wrI]
  refine CallThen.pure w 1000 ?_
  simp +contextual (maxSteps := 2000000) (disch := ((try unfold LIM at *); omega)) only [↓bcT, ↓bcF, WA, simprocAttr, wrI]
  refine CallThen.pure (w149_11 n r hr) 1000 ?_
  simp +contextual (maxSteps := 2000000) (disch := ((try unfold LIM at *); omega)) only [↓bcT, ↓bcF, WA, simprocAttr, wrI, valV_int, valV_3, valV_0, valV_row]
theorem w121_11 (n : Int) (r : List Int) (k : Nat) (c : Int) (hr : r.length ≤ 16) (hk : k < r.length) : PureV C 121 [.s (.string (primW 11)), .f 3 [valV ⟨3, n, r⟩, valV (intE k), valV (intE c)]] (.tup [.agg (valV (rowE (r.set k c))), .s (.int .i64 0)]) := by
  refine pure_of_run Tryz.func121 rfl (by kernel_rfl) (by kernel_rfl) (by simp) (fun _ => rfl) (fun _ => rfl) 6 1000 ?_
  have w := pure146 (primW 11)
  rw [ix_11] at w
  simp +contextual (maxSteps := 2000000) (disch := ((try unfold LIM at *); omega)) only [↓bcT, ↓bcF, WA, simprocAttr, wrI]
  refine CallThen.pure w 1000 ?_
  simp +contextual (maxSteps := 2000000) (disch := ((try unfold LIM at *); omega)) only [↓bcT, ↓bcF, WA, simprocAttr, wrI]
  refine CallThen.pure (w149_12 n r k c hr hk) 1000 ?_
  simp +contextual (maxSteps := 2000000) (disch := ((try unfold LIM at *); omega)) only [↓bcT, ↓bcF, WA, simprocAttr, wrI, valV_int, valV_3, valV_0, valV_row]
theorem w121_11z (n : Int) (r : List Int) (i c : Int) (hr : r.length ≤ 16) (hi : ¬ (0 ≤ i ∧ i < r.length)) : PureV C 121 [.s (.string (primW 11)), .f 3 [valV ⟨3, n, r⟩, valV (intE i), valV (intE c)]] (.tup [.agg (valV (zeroE)), .s (.int .i64 2)]) := by
  refine pure_of_run Tryz.func121 rfl (by kernel_rfl) (by kernel_rfl) (by simp) (fun _ => rfl) (fun _ => rfl) 6 1000 ?_
  have w := pure146 (primW 11)
  rw [ix_11] at w
  simp +contextual (maxSteps := 2000000) (disch := ((try unfold LIM at *); omega)) only [↓bcT, ↓bcF, WA, simprocAttr, wrI]
  refine CallThen.pure w 1000 ?_
  simp +contextual (maxSteps := 2000000) (disch := ((try unfold LIM at *); omega)) only [↓bcT, ↓bcF, WA, simprocAttr, wrI]
  refine CallThen.pure (w149_12z n r i c hr hi) 1000 ?_
  simp +contextual (maxSteps := 2000000) (disch := ((try unfold LIM at *); omega)) only [↓bcT, ↓bcF, WA, simprocAttr, wrI, valV_int, valV_3, valV_0, valV_row]
theorem w121_12 (n m : Int) (p q : List Int) (hp : p.length ≤ 16) (hq : q.length ≤ 16) (h : p.length + q.length ≤ 16) : PureV C 121 [.s (.string (primW 12)), .f 3 [valV ⟨3, n, p⟩, valV ⟨3, m, q⟩]] (.tup [.agg (valV (rowE (p ++ q))), .s (.int .i64 0)]) := by
  refine pure_of_run Tryz.func121 rfl (by kernel_rfl) (by kernel_rfl) (by simp) (fun _ => rfl) (fun _ => rfl) 6 1000 ?_
  have w := pure146 (primW 12)
  rw [ix_12] at w
  simp +contextual (maxSteps := 2000000) (disch := ((try unfold LIM at *); omega)) only [↓bcT, ↓bcF, WA, simprocAttr, wrI]
  refine CallThen.pure w 1000 ?_
  simp +contextual (maxSteps := 2000000) (disch := ((try unfold LIM at *); omega)) only [↓bcT, ↓bcF, WA, simprocAttr, wrI]
  refine CallThen.pure (w149_13 n m p q hp hq h) 1000 ?_
  simp +contextual (maxSteps := 2000000) (disch := ((try unfold LIM at *); omega)) only [↓bcT, ↓bcF, WA, simprocAttr, wrI, valV_int, valV_3, valV_0, valV_row]
theorem w121_12z (n m : Int) (p q : List Int) (hp : p.length ≤ 16) (hq : q.length ≤ 16) (h : 16 < p.length + q.length) : PureV C 121 [.s (.string (primW 12)), .f 3 [valV ⟨3, n, p⟩, valV ⟨3, m, q⟩]] (.tup [.agg (valV (zeroE)), .s (.int .i64 3)]) := by
  refine pure_of_run Tryz.func121 rfl (by kernel_rfl) (by kernel_rfl) (by simp) (fun _ => rfl) (fun _ => rfl) 6 1000 ?_
  have w := pure146 (primW 12)
  rw [ix_12] at w
  simp +contextual (maxSteps := 2000000) (disch := ((try unfold LIM at *); omega)) only [↓bcT, ↓bcF, WA, simprocAttr, wrI]
  refine CallThen.pure w 1000 ?_
  simp +contextual (maxSteps := 2000000) (disch := ((try unfold LIM at *); omega)) only [↓bcT, ↓bcF, WA, simprocAttr, wrI]
  refine CallThen.pure (w149_13z n m p q hp hq h) 1000 ?_
  simp +contextual (maxSteps := 2000000) (disch := ((try unfold LIM at *); omega)) only [↓bcT, ↓bcF, WA, simprocAttr, wrI, valV_int, valV_3, valV_0, valV_row]
theorem walk121 (p : Nat) (hp : p < 14) (vs : List Val) (hk : vs.map (·.k) = (primT p).1) (ho : ∀ v ∈ vs, VOk v) : PureV C 121 [.s (.string (primW p)), .f 3 (vs.map valV)] (.tup [.agg (valV (primE p vs).1), .s (.int .i64 (primE p vs).2)]) := by
  have nn : ∀ (q : Nat), vs.map (·.k) = [1, 1] → ∃ a b, vs = [intE a, intE b] := fun q h => by
    obtain ⟨x, y, rfl, h1, h2⟩ := two_of h
    have e1 := kind1 (by decide) h1 (ho x (by simp)); have e2 := kind1 (by decide) h2 (ho y (by simp))
    rw [e1, e2]; exact ⟨_, _, rfl⟩
  match p, hp with
  | 0, _ => obtain ⟨a, b, rfl⟩ := nn 0 hk; exact w121_0 a b
  | 1, _ => obtain ⟨a, b, rfl⟩ := nn 0 hk; exact w121_1 a b
  | 2, _ => obtain ⟨a, b, rfl⟩ := nn 0 hk; exact w121_2 a b
  | 3, _ =>
    obtain ⟨a, b, rfl⟩ := nn 0 hk
    by_cases hb : b = 0
    · subst hb; exact w121_3z a
    · have e : primE 3 [intE a, intE b] = (intE (wr (a.tdiv b)), 0) := by show (if b = 0 then _ else _) = _; rw [if_neg hb]; rfl
      rw [e]; exact w121_3 a b hb
  | 4, _ =>
    obtain ⟨a, b, rfl⟩ := nn 0 hk
    by_cases hb : b = 0
    · subst hb; exact w121_4z a
    · have e : primE 4 [intE a, intE b] = (intE (a.tmod b), 0) := by show (if b = 0 then _ else _) = _; rw [if_neg hb]; rfl
      rw [e]; exact w121_4 a b hb
  | 5, _ => obtain ⟨a, b, rfl⟩ := nn 0 hk; exact w121_5 a b
  | 6, _ => obtain ⟨a, b, rfl⟩ := nn 0 hk; exact w121_6 a b
  | 7, _ => obtain ⟨a, b, rfl⟩ := nn 0 hk; exact w121_7 a b
  | 8, _ =>
    obtain ⟨x, rfl, h1⟩ := one_of hk
    have e1 := kind1 (by decide) h1 (ho x (by simp)); rw [e1]; exact w121_8 x.n
  | 9, _ =>
    obtain ⟨x, y, rfl, h1, h2⟩ := two_of hk
    have hl := (ho x (by simp)).1
    have e1 := kind3 h1; have e2 := kind1 (by decide) h2 (ho y (by simp))
    rw [e1, e2]
    generalize x.n = n at *; generalize x.row = r at *; generalize y.n = i at *
    by_cases hb : 0 ≤ i ∧ i < r.length
    · obtain ⟨k, rfl⟩ : ∃ k : Nat, i = k := ⟨i.toNat, by omega⟩
      obtain ⟨w, hw⟩ : ∃ w, r[k]? = some w := ⟨r[k]'(by omega), List.getElem?_eq_getElem (by omega)⟩
      have e : primE 9 [⟨3, n, r⟩, ⟨1, (k : Int), []⟩] = (intE w, 0) := by
        show (if 0 ≤ (k : Int) ∧ (k : Int) < r.length then (intE (r[(k : Int).toNat]?.getD 0), (0 : Int)) else _) = _
        rw [if_pos hb, Int.toNat_natCast, hw]; rfl
      rw [e]; exact w121_9 n r k w hl hw
    · have e : primE 9 [⟨3, n, r⟩, ⟨1, i, []⟩] = (zeroE, 2) := by
        show (if 0 ≤ i ∧ i < r.length then _ else _) = _
        rw [if_neg hb]
      rw [e]; exact w121_9z n r i hl hb
  | 10, _ =>
    obtain ⟨x, rfl, h1⟩ := one_of hk
    have hl := (ho x (by simp)).1
    have e1 := kind3 h1; rw [e1]; exact w121_10 x.n x.row hl
  | 11, _ =>
    obtain ⟨x, y, z, rfl, h1, h2, h3⟩ := three_of hk
    have hl := (ho x (by simp)).1
    have e1 := kind3 h1; have e2 := kind1 (by decide) h2 (ho y (by simp)); have e3 := kind1 (by decide) h3 (ho z (by simp))
    rw [e1, e2, e3]
    generalize x.n = n at *; generalize x.row = r at *; generalize y.n = i at *; generalize z.n = c at *
    by_cases hb : 0 ≤ i ∧ i < r.length
    · obtain ⟨k, rfl⟩ : ∃ k : Nat, i = k := ⟨i.toNat, by omega⟩
      have e : primE 11 [⟨3, n, r⟩, ⟨1, (k : Int), []⟩, ⟨1, c, []⟩] = (rowE (r.set k c), 0) := by
        show (if 0 ≤ (k : Int) ∧ (k : Int) < r.length then (rowE (r.set (k : Int).toNat c), (0 : Int)) else _) = _
        rw [if_pos hb, Int.toNat_natCast]
      rw [e]; exact w121_11 n r k c hl (by omega)
    · have e : primE 11 [⟨3, n, r⟩, ⟨1, i, []⟩, ⟨1, c, []⟩] = (zeroE, 2) := by
        show (if 0 ≤ i ∧ i < r.length then _ else _) = _
        rw [if_neg hb]
      rw [e]; exact w121_11z n r i c hl hb
  | 12, _ =>
    obtain ⟨x, y, rfl, h1, h2⟩ := two_of hk
    have hl := (ho x (by simp)).1; have hl2 := (ho y (by simp)).1
    have e1 := kind3 h1; have e2 := kind3 h2
    rw [e1, e2]
    generalize x.n = n at *; generalize x.row = r at *; generalize y.n = i at *; generalize y.row = q at *
    by_cases hb : 16 < r.length + q.length
    · have e : primE 12 [⟨3, n, r⟩, ⟨3, i, q⟩] = (zeroE, 3) := by
        show (if 16 < r.length + q.length then _ else _) = _
        rw [if_pos hb]
      rw [e]; exact w121_12z n i r q hl hl2 hb
    · have e : primE 12 [⟨3, n, r⟩, ⟨3, i, q⟩] = (rowE (r ++ q), 0) := by
        show (if 16 < r.length + q.length then _ else _) = _
        rw [if_neg hb]; rfl
      rw [e]; exact w121_12 n i r q hl hl2 (by omega)
  | 13, _ =>
    obtain ⟨x, rfl, h1⟩ := one_of hk
    have e1 := kind1 (by decide) h1 (ho x (by simp)); rw [e1]; exact w121_13 x.n
def eqL : List Int → List Int → Bool
  | a :: p, b :: q => decide (a = b) && eqL p q
  | _, _ => true
theorem eqL_eq : ∀ {l r : List Int}, l.length = r.length → eqL l r = decide (l = r)
  | [], [], _ => by simp [eqL]
  | a :: p, b :: q, h => by
    have := eqL_eq (l := p) (r := q) (by simpa using h)
    simp only [eqL, this, List.cons.injEq]
    by_cases e : a = b <;> by_cases e2 : p = q <;> simp [e, e2]
  | [], _ :: _, h => by simp at h
  | _ :: _, [], h => by simp at h
theorem primT_nz2 : ∀ p : Nat, p < 14 → ¬ (primT p).2 = 0
  | 0, _ => by decide
  | 1, _ => by decide
  | 2, _ => by decide
  | 3, _ => by decide
  | 4, _ => by decide
  | 5, _ => by decide
  | 6, _ => by decide
  | 7, _ => by decide
  | 8, _ => by decide
  | 9, _ => by decide
  | 10, _ => by decide
  | 11, _ => by decide
  | 12, _ => by decide
  | 13, _ => by decide
  | n + 14, h => by omega
theorem walk120 (p : Nat) (hp : p < 14) (vs : List Val) (hl : vs.length = (primT p).1.length) : PureV C 120 [.s (.string (primW p)), .f 3 (vs.map valV)] (.s (.bool (decide (vs.map (·.k) = (primT p).1)))) := by
  refine pure_of_run Tryz.func120 rfl (by kernel_rfl) (by kernel_rfl) (by simp) (fun _ => rfl) (fun _ => rfl) 6 1000 ?_
  have w := pure147 p hp
  unfold primRes at w
  have hz : ¬ (primT p).2 = 0 := primT_nz2 p hp
  have h3 := (primT_ks p hp).1
  generalize (primT p).1 = ks at *
  simp +contextual (maxSteps := 2000000) (disch := ((try unfold LIM at *); omega)) only [↓bcT, ↓bcF, WA, simprocAttr, wrI]
  refine CallThen.pure w 1000 ?_
  simp +contextual (maxSteps := 2000000) (disch := ((try unfold LIM at *); omega)) only [↓bcT, ↓bcF, WA, simprocAttr, wrI, List.length_map, hz, hl]
  intros
  refine LoopThen.pure (ι := Nat) (fun i => i ≤ ks.length ∧ eqL ((vs.map (·.k)).drop i) (ks.drop i) = decide (vs.map (·.k) = ks)) (fun i => keepL [(1, .f 3 (vs.map valV)), (5, .f 1 (ks.map iV)), (7, .s (.int .i64 i))]) (fun i => ks.length - i)
    6 [1, 5, 7] 1000 1000 ⟨0, ⟨by omega, eqL_eq (by simpa using hl)⟩, by simp +contextual (maxSteps := 2000000) (disch := ((try unfold LIM at *); omega)) only [↓bcT, ↓bcF, WA, simprocAttr, wrI]⟩ ?_
  rintro i ⟨p1, p4⟩
  by_cases c2 : (i : Int) < ks.length
  · obtain ⟨g, hg⟩ := get_lt c2
    obtain ⟨f, hf⟩ := get_lt (l := vs) (i := i) (by omega)
    have hf2 : (vs.map (·.k))[i]? = some f.k := by rw [List.getElem?_map, hf]; rfl
    have hfv : (vs.map valV)[i]? = some (valV f) := by rw [List.getElem?_map, hf]; rfl
    simp only [valV] at hfv
    have pi : (0 : Int) ≤ i := by omega
    have pv : (i : Int) < vs.length := by omega
    rw [drop_cons hf2, drop_cons hg] at p4
    simp only [eqL] at p4
    by_cases c3 : f.k = g
    · rw [decide_eq_true c3, Bool.true_and] at p4
      simp +contextual (maxSteps := 2000000) (disch := ((try unfold LIM at *); omega)) only [↓bcT, ↓bcF, WA, simprocAttr, wrI, List.length_map, c2, pi]
      intros
      refine DrawThen.of 1000 [] (.old 0 (.old 1 (.old 2 (.old 3 (.old 4 (.old 5 (.old 6 (.old 7 (.old 8 (.old 9 .done)))))))))) (panFree_loopP (panFree_pure _ _ _)) (by kernel_rfl) (by kernel_rfl) (by kernel_rfl) ?_
      simp +contextual (maxSteps := 2000000) (disch := ((try unfold LIM at *); omega)) only [↓bcT, ↓bcF, WA, simprocAttr, wrI, List.length_map, c2, hfv, hg, pi, pv, iV, c3, cast_succ]
      exact ⟨i + 1, ⟨⟨by omega, p4⟩, by omega⟩, rfl⟩
    · rw [decide_eq_false c3, Bool.false_and] at p4
      simp +contextual (maxSteps := 2000000) (disch := ((try unfold LIM at *); omega)) only [↓bcT, ↓bcF, WA, simprocAttr, wrI, List.length_map, c2, pi]
      intros
      refine DrawThen.of 1000 [] (.old 0 (.old 1 (.old 2 (.old 3 (.old 4 (.old 5 (.old 6 (.old 7 (.old 8 (.old 9 .done)))))))))) (panFree_loopP (panFree_pure _ _ _)) (by kernel_rfl) (by kernel_rfl) (by kernel_rfl) ?_
      simp +contextual (maxSteps := 2000000) (disch := ((try unfold LIM at *); omega)) only [↓bcT, ↓bcF, WA, simprocAttr, wrI, List.length_map, c2, hfv, hg, pi, pv, iV, c3, ← p4]
  · have e : i = ks.length := by omega
    subst e
    have e1 : (vs.map (·.k)).drop ks.length = [] := by rw [List.drop_eq_nil_of_le (by simp [hl])]
    rw [List.drop_length, e1] at p4
    simp only [eqL] at p4
    simp +contextual (maxSteps := 2000000) (disch := ((try unfold LIM at *); omega)) only [↓bcT, ↓bcF, WA, simprocAttr, wrI, List.length_map, c2, ← p4, Int.lt_irrefl]
    try (intros; rfl)
end Go.Proofs.YtlhkfjannhhcbaaGreatDoor
