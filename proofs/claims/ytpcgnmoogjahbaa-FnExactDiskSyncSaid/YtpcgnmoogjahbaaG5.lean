/- What functions of the program answer, walked on the abstract layer, and closed facts of the program; the conditions stand in each theorem. -/
import Derived.Test.YtpcgnmoogjahbaaG4
import Derived.Test.YtpcgnmoogjahbaaRows
import Derived.WalkKit
import Derived.ProofKit
import Derived.OpenShut
import Derived.ShutString
import Derived.ChangeOld
import Derived.Below
import Derived.SizedLaws
/- part D26 -/
set_option linter.unusedVariables false
set_option linter.unusedSimpArgs false
set_option maxRecDepth 100000
namespace Go.Proofs.Ytpcgnmoogjahbaa
open Go Go.W Go.RowKit
theorem own_fl {l : List Fl} {cap : Nat} : elsOf 0 l.length (some ⟨l.map fV, 2, cap, true⟩) = some (l.map fV) := by simp [elsOf, List.take_of_length_le]
theorem own_ol {l : List Opn} {cap : Nat} : elsOf 0 l.length (some ⟨l.map oV, 3, cap, true⟩) = some (l.map oV) := by simp [elsOf, List.take_of_length_le]
theorem markF_take (k : Int) (n : Nat) : List.take n ((markF k n).map fV) = (markF k n).map fV := List.take_of_length_le (by simp [markF_len])
theorem markO_take (k : Int) (n : Nat) : List.take n ((markO k n).map oV) = (markO k n).map oV := List.take_of_length_le (by simp [markO_len])
theorem see_len {fl : List Fl} {ol : List Opn} {cap : Int} : (seeD fl ol cap).length ≤ 20 := by
  unfold seeD; split
  · rename_i c; exact ((good_of c).size _).1
  · simp
theorem walk11 (fl : List Fl) (ol : List Opn) (cap : Int) : PureV C 11 [.agg (dV fl ol cap)] (.s (.bool true)) := by
  refine pure_of_run Try.func11 rfl (by kernel_rfl) (by kernel_rfl) (by simp) (fun _ => rfl) (fun _ => rfl) 6 1000 ?_
  simp +contextual (disch := ((try unfold LIM at *); omega)) only [↓bcase_true, ↓bcase_false, WA, simprocAttr, wrap_i64, dV]
  refine CallThen.pure (walk30 fl ol cap 1048576 (by omega) (by omega)) 1000 ?_
  by_cases c : szD fl ol 1048576 < 0
  · simp +contextual (disch := ((try unfold LIM at *); omega)) only [↓bcase_true, ↓bcase_false, WA, simprocAttr, wrap_i64, c]
  have S := sized_of (fl := fl) (ol := ol) (left := 1048576) (by omega) (by omega)
  simp +contextual (disch := ((try unfold LIM at *); omega)) only [↓bcase_true, ↓bcase_false, WA, simprocAttr, wrap_i64, c]
  refine CallThen.pure (walk32 fl ol cap S.f S.o) 1000 ?_
  simp +contextual (disch := ((try unfold LIM at *); omega)) only [↓bcase_true, ↓bcase_false, WA, simprocAttr, wrap_i64]
  refine CallThen.pure (walk46 fl ol cap S) 1000 ?_
  simp +contextual (disch := ((try unfold LIM at *); omega)) only [↓bcase_true, ↓bcase_false, WA, simprocAttr, wrap_i64, dV]
  refine CallThen.newD (new32 fl ol cap S.f S.o) 6 (by simp +contextual (disch := ((try unfold LIM at *); omega)) only [↓bcase_true, ↓bcase_false, WA, simprocAttr, wrap_i64, dV, frzs_f]) 1000 fun c1 c2 hc1 hc2 => ?_
  simp +contextual (disch := ((try unfold LIM at *); omega)) only [↓bcase_true, ↓bcase_false, WA, simprocAttr, wrap_i64, dO, dH]
  refine CallThen.newB (new39 fl ol cap S) (plains_map fV_plain _) 6 ?_ 1000 fun c3 hc3 => ?_
  · simp +contextual (disch := ((try unfold LIM at *); omega)) only [↓bcase_true, ↓bcase_false, WA, simprocAttr, wrap_i64, dV, List.length_map, own_fl, own_ol, fV_frz, oV_frz, Nat.not_lt_zero]
  rw [List.length_map] at hc3
  generalize hs : seeD fl ol cap = sl at *
  have sl20 : sl.length ≤ 20 := hs ▸ see_len
  simp +contextual (disch := ((try unfold LIM at *); omega)) only [↓bcase_true, ↓bcase_false, WA, simprocAttr, wrap_i64, List.length_map]
  refine CallThen.borrow (walk50 sl sl) (flat_s _) 6 ?_ 1000 ?_
  · simp +contextual (disch := ((try unfold LIM at *); omega)) only [↓bcase_true, ↓bcase_false, WA, simprocAttr, wrap_i64, List.length_map, fV_frz, Nat.not_lt_zero, own_fl]
  simp +contextual (disch := ((try unfold LIM at *); omega)) only [↓bcase_true, ↓bcase_false, WA, simprocAttr, wrap_i64]
  refine DrawThen.of 1000 [1, 2] (.old 0 (.old 1 (.go 2 (.go 3 (.new 4 .done))))) (panFree_pure _ _ _) (by kernel_rfl) (by kernel_rfl) (by kernel_rfl) ?_
  simp +contextual (disch := ((try unfold LIM at *); omega)) only [↓bcase_true, ↓bcase_false, WA, simprocAttr, wrap_i64]
  refine DCall.pure (walk32 fl ol cap S.f S.o) 1000 (.go 3 (.new 4 .done)) (by kernel_rfl) ?_
  simp +contextual (disch := ((try unfold LIM at *); omega)) only [↓bcase_true, ↓bcase_false, WA, simprocAttr, wrap_i64, dV]
  refine DCall.borrow (walk34 fl ol cap fl ol cap) (flat_s _) 6 ?_ 1000 (.new 4 .done) (by kernel_rfl) ?_
  · simp +contextual (disch := ((try unfold LIM at *); omega)) only [↓bcase_true, ↓bcase_false, WA, simprocAttr, wrap_i64, dV, List.length_map, own_fl, own_ol, fV_frz, oV_frz, Nat.not_lt_zero]
  simp +contextual (disch := ((try unfold LIM at *); omega)) only [↓bcase_true, ↓bcase_false, WA, simprocAttr, wrap_i64, and_self]
  refine CallThen.edit (walk51 fl ol cap 1 c1 c2 S.f S.o hc1 hc2 (by omega) (by omega)) [1, 2] (by simp) ⟨.inl ⟨nrs_map fV_nr _, rfl⟩, .inl ⟨nrs_map oV_nr _, rfl⟩, trivial⟩ rfl 1000 ?_
  have hf := S.f
  have ho := S.o
  have p1 : ¬ (1 + 2 * (fl.length : Int) + 3 * (ol.length : Int) < 0) := by omega
  simp +contextual (disch := ((try unfold LIM at *); omega)) only [↓bcase_true, ↓bcase_false, WA, simprocAttr, wrap_i64, WB8, dH, p1]
  refine CallThen.borrow (walk50 sl sl) (flat_s _) 6 ?_ 1000 ?_
  · simp +contextual (disch := ((try unfold LIM at *); omega)) only [↓bcase_true, ↓bcase_false, WA, simprocAttr, wrap_i64, List.length_map, fV_frz, Nat.not_lt_zero, own_fl]
  simp +contextual (disch := ((try unfold LIM at *); omega)) only [↓bcase_true, ↓bcase_false, WA, simprocAttr, wrap_i64, WB8]
  refine CallThen.edit (walk52 sl 1 c3 (by omega) hc3 (by omega) (by omega)) [4] (by simp) ⟨.inl ⟨nrs_map fV_nr _, rfl⟩, trivial⟩ rfl 1000 ?_
  simp +contextual (disch := ((try unfold LIM at *); omega)) only [↓bcase_true, ↓bcase_false, WA, simprocAttr, wrap_i64, WB8]
  have hm : ∀ cap, elsOf 0 sl.length (some ⟨(markF 1 sl.length).map fV, 2, cap, true⟩) = some ((markF 1 sl.length).map fV) := fun cap => by simp [elsOf, List.take_of_length_le, markF_len]
  refine CallThen.borrow (walk53 1 sl.length (by omega) (by omega) (by omega)) (flat_s _) 6 ?_ 1000 ?_
  · simp +contextual (disch := ((try unfold LIM at *); omega)) only [↓bcase_true, ↓bcase_false, WA, simprocAttr, wrap_i64, List.length_map, fV_frz, Nat.not_lt_zero, markF_len, markF_take]
  have p2 : ¬ (1 + 2 * (sl.length : Int) < 0) := by omega
  simp +contextual (disch := ((try unfold LIM at *); omega)) only [↓bcase_true, ↓bcase_false, WA, simprocAttr, wrap_i64, WB8, p2, bne_self_eq_false]
  refine CallThen.pure (walk32 fl ol cap S.f S.o) 1000 ?_
  simp +contextual (disch := ((try unfold LIM at *); omega)) only [↓bcase_true, ↓bcase_false, WA, simprocAttr, wrap_i64, WB8]
  have n39 := new39 fl ol cap S
  rw [hs] at n39
  refine CallThen.new n39 (nrs_map fV_nr _) (fun _ => rfl) 1000 fun c4 hc4 => ?_
  rw [List.length_map] at hc4
  simp +contextual (disch := ((try unfold LIM at *); omega)) only [↓bcase_true, ↓bcase_false, WA, simprocAttr, wrap_i64, WB8, List.length_map]
  refine CallThen.borrow (walk50 sl sl) (flat_s _) 6 ?_ 1000 ?_
  · simp +contextual (disch := ((try unfold LIM at *); omega)) only [↓bcase_true, ↓bcase_false, WA, simprocAttr, wrap_i64, List.length_map, fV_frz, Nat.not_lt_zero, own_fl]
  simp +contextual (disch := ((try unfold LIM at *); omega)) only [↓bcase_true, ↓bcase_false, WA, simprocAttr, wrap_i64, WB8]
  refine CallThen.borrow (walk53 1 sl.length (by omega) (by omega) (by omega)) (flat_s _) 6 ?_ 1000 ?_
  · simp +contextual (disch := ((try unfold LIM at *); omega)) only [↓bcase_true, ↓bcase_false, WA, simprocAttr, wrap_i64, List.length_map, fV_frz, Nat.not_lt_zero, markF_len, markF_take]
  simp +contextual (disch := ((try unfold LIM at *); omega)) only [↓bcase_true, ↓bcase_false, WA, simprocAttr, wrap_i64, WB8, p2, bne_self_eq_false]
end Go.Proofs.Ytpcgnmoogjahbaa
/- part D27 -/
set_option linter.unusedVariables false
set_option linter.unusedSimpArgs false
set_option maxRecDepth 100000
namespace Go.Proofs.Ytpcgnmoogjahbaa
open Go Go.W Go.RowKit
def fallF (fl : List Fl) (ol : List Opn) (cap keep : Int) : List Fl := if diskOk fl ol cap = true then seeS fl ol keep.toNat else []
def fallC (fl : List Fl) (ol : List Opn) (cap : Int) : Int := if diskOk fl ol cap = true then cap else 0
theorem wk_dV (fl : List Fl) (cap : Int) : WkV (.agg [.f 2 (fl.map fV), .z, .s (.int .i64 cap)]) (.agg (dV fl [] cap)) := wkV_agg ⟨wkC_refl _, wkC_z 3, wkC_refl _, trivial⟩
theorem wk_dV0 : WkV (.agg [.z, .z, .s (.int .i64 0)]) (.agg (dV [] [] 0)) := wkV_agg ⟨wkC_z 2, wkC_z 3, wkC_refl _, trivial⟩
theorem walk54 (fl : List Fl) (ol : List Opn) (cap keep : Int) (S : Sized fl ol 1048576) : PureV C 54 [.agg (dV fl ol cap), .s (.int .i64 keep)] (.agg (dV (fallF fl ol cap keep) [] (fallC fl ol cap))) := by
  cases c : diskOk fl ol cap with
  | true =>
    have e1 : fallF fl ol cap keep = seeS fl ol keep.toNat := by simp [fallF, c]
    have e2 : fallC fl ol cap = cap := by simp [fallC, c]
    rw [e1, e2]
    refine PureV.weak ?_ (wk_dV _ _) (fun _ => rfl)
    refine pure_of_run Try.func54 rfl (by kernel_rfl) (by kernel_rfl) (by simp) (fun _ => rfl) (fun _ => rfl) 6 1000 ?_
    simp +contextual (disch := ((try unfold LIM at *); omega)) only [↓bcase_true, ↓bcase_false, WA, simprocAttr, wrap_i64, dV]
    refine CallThen.pure (walk31 fl ol cap S.f S.o S.b S.s) 1000 ?_
    simp +contextual (disch := ((try unfold LIM at *); omega)) only [↓bcase_true, ↓bcase_false, WA, simprocAttr, wrap_i64, dV, c]
    refine DrawThen.of 1000 [1] (.old 0 (.old 1 (.old 2 (.old 3 (.old 4 (.old 6 (.old 7 (.go 5 (.new 8 (.go 9 .done)))))))))) (panFree_pure _ _ _) (by kernel_rfl) (by kernel_rfl) (by kernel_rfl) ?_
    simp +contextual (disch := ((try unfold LIM at *); omega)) only [↓bcase_true, ↓bcase_false, WA, simprocAttr, wrap_i64]
    refine DCall.pure (walk100 fl ol cap keep (good_of c) S.s) 1000 (.new 8 (.go 9 .done)) (by kernel_rfl) ?_
    simp +contextual (disch := ((try unfold LIM at *); omega)) only [↓bcase_true, ↓bcase_false, WA, simprocAttr, wrap_i64]
  | false =>
    have e1 : fallF fl ol cap keep = [] := by simp [fallF, c]
    have e2 : fallC fl ol cap = 0 := by simp [fallC, c]
    rw [e1, e2]
    refine PureV.weak ?_ wk_dV0 (fun _ => rfl)
    refine pure_of_run Try.func54 rfl (by kernel_rfl) (by kernel_rfl) (by simp) (fun _ => rfl) (fun _ => rfl) 6 1000 ?_
    simp +contextual (disch := ((try unfold LIM at *); omega)) only [↓bcase_true, ↓bcase_false, WA, simprocAttr, wrap_i64, dV]
    refine CallThen.pure (walk31 fl ol cap S.f S.o S.b S.s) 1000 ?_
    simp +contextual (disch := ((try unfold LIM at *); omega)) only [↓bcase_true, ↓bcase_false, WA, simprocAttr, wrap_i64, dV, c]
theorem new96 (fl : List Fl) (ol : List Opn) (cap keep : Int) (g : Good fl ol cap) (hs : ∀ o ∈ ol, oneO o ≤ 1048576) : NewD 96 [.agg (dV fl ol cap), .s (.int .i64 keep)] (seeS fl ol keep.toNat) [] cap := by
  refine calls_of_run Try.func96 rfl (by kernel_rfl) (by kernel_rfl) (by simp) 1000 ?_
  simp +contextual (disch := ((try unfold LIM at *); omega)) only [↓bcase_true, ↓bcase_false, WA, simprocAttr, wrap_i64, dV]
  refine DrawThen.of 1000 [1] (.old 0 (.old 1 (.old 2 (.old 3 (.old 4 (.old 5 (.old 6 (.old 8 (.old 9 (.go 7 (.new 10 (.go 11 .done)))))))))))) (panFree_body _ _) (by kernel_rfl) (by kernel_rfl) (by kernel_rfl) ?_
  have hk : (if (ol.length : Int) < (if keep < 0 then 0 else keep) then (ol.length : Int) else if keep < 0 then 0 else keep) = ((min keep.toNat ol.length : Nat) : Int) := by
    split <;> split at * <;> omega
  have hse : seeS fl ol (min keep.toNat ol.length) = seeS fl ol keep.toNat := by
    by_cases q : keep.toNat ≤ ol.length
    · rw [Nat.min_eq_left q]
    · rw [Nat.min_eq_right (by omega), see_all (i := keep.toNat) (by omega)]
  have hs118 := walk118 fl ol cap (min keep.toNat ol.length) (Nat.min_le_right _ _) g hs
  rw [hse] at hs118
  simp +contextual (disch := ((try unfold LIM at *); omega)) only [↓bcase_true, ↓bcase_false, WA, simprocAttr, wrap_i64, dV, List.length_map, hk]
  intro _
  refine DCall.new hs118 (nrs_map fV_nr _) (fun _ => rfl) 1000 (.new 10 (.go 11 .done)) (by kernel_rfl) fun cp hc => ?_
  rw [List.length_map] at hc
  simp +contextual (disch := ((try unfold LIM at *); omega)) only [↓bcase_true, ↓bcase_false, WA, simprocAttr, wrap_i64, dV, List.length_map]
  refine Up.arr (Arr.nilV 3) (.inl (.inr ⟨_, [.sl 2 0 (seeS fl ol keep.toNat).length cp, .sl 3 0 0 0, .s (.int .i64 cap)], rfl, rfl, .inl rfl, .inr ⟨rfl, rfl⟩, .inl rfl, trivial⟩)) ?_
  refine Up.gc (.agg (dO (seeS fl ol keep.toNat) [] cap 0 cp 1 0)) [2, 3] (dH (seeS fl ol keep.toNat) [] cp 0) (by simp) ?_ ?_ ⟨cp, 0, hc, Nat.le_refl _, rfl, rfl⟩
  · exact ⟨.inl ⟨nrs_map fV_nr _, rfl⟩, .inl ⟨rfl, rfl⟩, trivial⟩
  · rfl
theorem new47 (fl : List Fl) (ol : List Opn) (cap keep : Int) (S : Sized fl ol 1048576) : NewD 47 [.agg (dV fl ol cap), .s (.int .i64 keep)] (fallF fl ol cap keep) [] (fallC fl ol cap) := by
  refine calls_of_run Try.func47 rfl (by kernel_rfl) (by kernel_rfl) (by simp) 1000 ?_
  simp +contextual (disch := ((try unfold LIM at *); omega)) only [↓bcase_true, ↓bcase_false, WA, simprocAttr, wrap_i64, dV]
  refine CallThen.pure (walk33 fl ol cap S.f S.o S.b S.s) 1000 ?_
  cases c : diskOk fl ol cap with
  | true =>
    have e1 : fallF fl ol cap keep = seeS fl ol keep.toNat := by simp [fallF, c]
    have e2 : fallC fl ol cap = cap := by simp [fallC, c]
    rw [e1, e2]
    simp +contextual (disch := ((try unfold LIM at *); omega)) only [↓bcase_true, ↓bcase_false, WA, simprocAttr, wrap_i64, dV]
    refine CallThen.newD (new96 fl ol cap keep (good_of c) S.s) 6 (by simp +contextual (disch := ((try unfold LIM at *); omega)) only [↓bcase_true, ↓bcase_false, WA, simprocAttr, wrap_i64, dV, frzs_f]) 1000 fun c1 c2 hc1 hc2 => ?_
    simp +contextual (disch := ((try unfold LIM at *); omega)) only [↓bcase_true, ↓bcase_false, WA, simprocAttr, wrap_i64, dO, dH]
    refine Up.gc (.agg (dO (seeS fl ol keep.toNat) [] cap 0 c1 1 c2)) [2, 3] (dH (seeS fl ol keep.toNat) [] c1 c2) (by simp) ?_ ?_ ⟨c1, c2, hc1, hc2, rfl, rfl⟩
    · exact ⟨.inl ⟨nrs_map fV_nr _, rfl⟩, .inl ⟨rfl, rfl⟩, trivial⟩
    · rfl
  | false =>
    have e1 : fallF fl ol cap keep = [] := by simp [fallF, c]
    have e2 : fallC fl ol cap = 0 := by simp [fallC, c]
    rw [e1, e2]
    simp +contextual (disch := ((try unfold LIM at *); omega)) only [↓bcase_true, ↓bcase_false, WA, simprocAttr, wrap_i64, dV]
    refine Up.arr (Arr.nilV 2) (.inl (.inr ⟨_, [.sl 2 0 0 0, .z, .s (.int .i64 0)], rfl, rfl, .inr ⟨rfl, rfl⟩, .inl rfl, .inl rfl, trivial⟩)) ?_
    refine Up.arr (Arr.nilV 3) (.inl (.inr ⟨_, [.sl 2 0 0 0, .sl 3 0 0 0, .s (.int .i64 0)], rfl, rfl, .inl rfl, .inr ⟨rfl, rfl⟩, .inl rfl, trivial⟩)) ?_
    refine Up.gc (.agg (dO [] [] 0 0 0 1 0)) [2, 3] (dH [] [] 0 0) (by simp) ?_ ?_ ⟨0, 0, Nat.le_refl _, Nat.le_refl _, rfl, rfl⟩
    · exact ⟨.inl ⟨rfl, rfl⟩, .inl ⟨rfl, rfl⟩, trivial⟩
    · rfl
end Go.Proofs.Ytpcgnmoogjahbaa
/- part D28 -/
set_option linter.unusedVariables false
set_option linter.unusedSimpArgs false
set_option maxRecDepth 100000
namespace Go.Proofs.Ytpcgnmoogjahbaa
open Go Go.W Go.RowKit
theorem fall_len {fl : List Fl} {ol : List Opn} {cap keep : Int} : (fallF fl ol cap keep).length ≤ 20 := by
  unfold fallF; split
  · rename_i c; exact ((good_of c).size _).1
  · simp
theorem walk12 (fl : List Fl) (ol : List Opn) (cap : Int) (keep : Int) : PureV C 12 [.agg (dV fl ol cap), .s (.int .i64 keep)] (.s (.bool true)) := by
  refine pure_of_run Try.func12 rfl (by kernel_rfl) (by kernel_rfl) (by simp) (fun _ => rfl) (fun _ => rfl) 6 1000 ?_
  simp +contextual (disch := ((try unfold LIM at *); omega)) only [↓bcase_true, ↓bcase_false, WA, simprocAttr, wrap_i64, dV]
  refine CallThen.pure (walk30 fl ol cap 1048576 (by omega) (by omega)) 1000 ?_
  by_cases c : szD fl ol 1048576 < 0
  · simp +contextual (disch := ((try unfold LIM at *); omega)) only [↓bcase_true, ↓bcase_false, WA, simprocAttr, wrap_i64, c]
  have S := sized_of (fl := fl) (ol := ol) (left := 1048576) (by omega) (by omega)
  have hf := S.f
  have ho := S.o
  simp +contextual (disch := ((try unfold LIM at *); omega)) only [↓bcase_true, ↓bcase_false, WA, simprocAttr, wrap_i64, c]
  refine CallThen.pure (walk32 fl ol cap S.f S.o) 1000 ?_
  simp +contextual (disch := ((try unfold LIM at *); omega)) only [↓bcase_true, ↓bcase_false, WA, simprocAttr, wrap_i64]
  obtain ⟨sl, so, q, wS, nI, hsl, hso⟩ : ∃ sl so q, PureV C 54 [.agg (dV fl ol cap), .s (.int .i64 keep)] (.agg (dV sl so q)) ∧ NewD 47 [.agg (dV fl ol cap), .s (.int .i64 keep)] sl so q ∧ sl.length ≤ 1048576 ∧ so.length ≤ 1048576 := ⟨_, _, _, (walk54 fl ol cap keep S), (new47 fl ol cap keep S), by have := fall_len (fl := fl) (ol := ol) (cap := cap) (keep := keep); omega, by simp⟩
  refine CallThen.pure wS 1000 ?_
  simp +contextual (disch := ((try unfold LIM at *); omega)) only [↓bcase_true, ↓bcase_false, WA, simprocAttr, wrap_i64, dV]
  refine CallThen.newD (new32 fl ol cap S.f S.o) 6 (by simp +contextual (disch := ((try unfold LIM at *); omega)) only [↓bcase_true, ↓bcase_false, WA, simprocAttr, wrap_i64, dV, frzs_f]) 1000 fun c1 c2 hc1 hc2 => ?_
  simp +contextual (disch := ((try unfold LIM at *); omega)) only [↓bcase_true, ↓bcase_false, WA, simprocAttr, wrap_i64, dO, dH]
  refine CallThen.newD nI 6 ?_ 1000 fun c3 c4 hc3 hc4 => ?_
  · simp +contextual (disch := ((try unfold LIM at *); omega)) only [↓bcase_true, ↓bcase_false, WA, simprocAttr, wrap_i64, dV, List.length_map, own_fl, own_ol, fV_frz, oV_frz, Nat.not_lt_zero]
  simp +contextual (disch := ((try unfold LIM at *); omega)) only [↓bcase_true, ↓bcase_false, WA, simprocAttr, wrap_i64, dO, dH]
  refine CallThen.borrow (walk34 sl so q sl so q) (flat_s _) 6 ?_ 1000 ?_
  · simp +contextual (disch := ((try unfold LIM at *); omega)) only [↓bcase_true, ↓bcase_false, WA, simprocAttr, wrap_i64, dV, List.length_map, own_fl, own_ol, fV_frz, oV_frz, Nat.not_lt_zero]
  simp +contextual (disch := ((try unfold LIM at *); omega)) only [↓bcase_true, ↓bcase_false, WA, simprocAttr, wrap_i64, and_self]
  refine DrawThen.of 1000 [2, 3] (.old 0 (.old 1 (.go 2 (.go 3 (.new 4 .done))))) (panFree_pure _ _ _) (by kernel_rfl) (by kernel_rfl) (by kernel_rfl) ?_
  simp +contextual (disch := ((try unfold LIM at *); omega)) only [↓bcase_true, ↓bcase_false, WA, simprocAttr, wrap_i64]
  refine DCall.pure (walk32 fl ol cap S.f S.o) 1000 (.go 3 (.new 4 .done)) (by kernel_rfl) ?_
  simp +contextual (disch := ((try unfold LIM at *); omega)) only [↓bcase_true, ↓bcase_false, WA, simprocAttr, wrap_i64, dV]
  refine DCall.borrow (walk34 fl ol cap fl ol cap) (flat_s _) 6 ?_ 1000 (.new 4 .done) (by kernel_rfl) ?_
  · simp +contextual (disch := ((try unfold LIM at *); omega)) only [↓bcase_true, ↓bcase_false, WA, simprocAttr, wrap_i64, dV, List.length_map, own_fl, own_ol, fV_frz, oV_frz, Nat.not_lt_zero]
  simp +contextual (disch := ((try unfold LIM at *); omega)) only [↓bcase_true, ↓bcase_false, WA, simprocAttr, wrap_i64, and_self]
  refine CallThen.edit (walk51 fl ol cap 1 c1 c2 S.f S.o hc1 hc2 (by omega) (by omega)) [2, 3] (by simp) ⟨.inl ⟨nrs_map fV_nr _, rfl⟩, .inl ⟨nrs_map oV_nr _, rfl⟩, trivial⟩ rfl 1000 ?_
  have p1 : ¬ (1 + 2 * (fl.length : Int) + 3 * (ol.length : Int) < 0) := by omega
  simp +contextual (disch := ((try unfold LIM at *); omega)) only [↓bcase_true, ↓bcase_false, WA, simprocAttr, wrap_i64, WB8, dH, p1]
  refine CallThen.borrow (walk34 sl so q sl so q) (flat_s _) 6 ?_ 1000 ?_
  · simp +contextual (disch := ((try unfold LIM at *); omega)) only [↓bcase_true, ↓bcase_false, WA, simprocAttr, wrap_i64, dV, List.length_map, own_fl, own_ol, fV_frz, oV_frz, Nat.not_lt_zero]
  simp +contextual (disch := ((try unfold LIM at *); omega)) only [↓bcase_true, ↓bcase_false, WA, simprocAttr, wrap_i64, WB8, and_self]
  refine CallThen.edit (walk51 sl so q 1 c3 c4 hsl hso hc3 hc4 (by omega) (by omega)) [5, 6] (by simp) ⟨.inl ⟨nrs_map fV_nr _, rfl⟩, .inl ⟨nrs_map oV_nr _, rfl⟩, trivial⟩ rfl 1000 ?_
  have p2 : ¬ (1 + 2 * (sl.length : Int) + 3 * (so.length : Int) < 0) := by omega
  simp +contextual (disch := ((try unfold LIM at *); omega)) only [↓bcase_true, ↓bcase_false, WA, simprocAttr, wrap_i64, WB8, dH]
  refine CallThen.borrow (walk55 q 1 sl.length so.length hsl hso (by omega) (by omega)) (flat_s _) 6 ?_ 1000 ?_
  · simp +contextual (disch := ((try unfold LIM at *); omega)) only [↓bcase_true, ↓bcase_false, WA, simprocAttr, wrap_i64, dV, List.length_map, fV_frz, oV_frz, Nat.not_lt_zero, markF_len, markF_take, markO_len, markO_take]
  simp +contextual (disch := ((try unfold LIM at *); omega)) only [↓bcase_true, ↓bcase_false, WA, simprocAttr, wrap_i64, WB8, p2, bne_self_eq_false]
  refine CallThen.pure (walk32 fl ol cap S.f S.o) 1000 ?_
  simp +contextual (disch := ((try unfold LIM at *); omega)) only [↓bcase_true, ↓bcase_false, WA, simprocAttr, wrap_i64, WB8, dV]
  refine CallThen.newD nI 6 ?_ 1000 fun c5 c6 hc5 hc6 => ?_
  · simp +contextual (disch := ((try unfold LIM at *); omega)) only [↓bcase_true, ↓bcase_false, WA, simprocAttr, wrap_i64, dV, frzs_f]
  simp +contextual (disch := ((try unfold LIM at *); omega)) only [↓bcase_true, ↓bcase_false, WA, simprocAttr, wrap_i64, WB8, dO, dH]
  refine CallThen.borrow (walk34 sl so q sl so q) (flat_s _) 6 ?_ 1000 ?_
  · simp +contextual (disch := ((try unfold LIM at *); omega)) only [↓bcase_true, ↓bcase_false, WA, simprocAttr, wrap_i64, dV, List.length_map, own_fl, own_ol, fV_frz, oV_frz, Nat.not_lt_zero]
  simp +contextual (disch := ((try unfold LIM at *); omega)) only [↓bcase_true, ↓bcase_false, WA, simprocAttr, wrap_i64, WB8, and_self]
  refine CallThen.borrow (walk55 q 1 sl.length so.length hsl hso (by omega) (by omega)) (flat_s _) 6 ?_ 1000 ?_
  · simp +contextual (disch := ((try unfold LIM at *); omega)) only [↓bcase_true, ↓bcase_false, WA, simprocAttr, wrap_i64, dV, List.length_map, fV_frz, oV_frz, Nat.not_lt_zero, markF_len, markF_take, markO_len, markO_take]
  simp +contextual (disch := ((try unfold LIM at *); omega)) only [↓bcase_true, ↓bcase_false, WA, simprocAttr, wrap_i64, WB8, p2, bne_self_eq_false]
end Go.Proofs.Ytpcgnmoogjahbaa
/- part D29 -/
set_option linter.unusedVariables false
set_option linter.unusedSimpArgs false
set_option maxRecDepth 100000
namespace Go.Proofs.Ytpcgnmoogjahbaa
open Go Go.W Go.RowKit
theorem walk56 (fl : List Fl) (ol : List Opn) (cap : Int) (S : Sized fl ol 1048576) : PureV C 56 [.agg (dV fl ol cap)] (.agg (dV (seeD fl ol cap) [] (fallC fl ol cap))) := by
  cases c : diskOk fl ol cap with
  | true =>
    have e1 : seeD fl ol cap = seeS fl ol ol.length := by simp [seeD, c]
    have e2 : fallC fl ol cap = cap := by simp [fallC, c]
    rw [e1, e2]
    refine PureV.weak ?_ (wk_dV _ _) (fun _ => rfl)
    refine pure_of_run Try.func56 rfl (by kernel_rfl) (by kernel_rfl) (by simp) (fun _ => rfl) (fun _ => rfl) 6 1000 ?_
    simp +contextual (disch := ((try unfold LIM at *); omega)) only [↓bcase_true, ↓bcase_false, WA, simprocAttr, wrap_i64, dV]
    refine CallThen.pure (walk31 fl ol cap S.f S.o S.b S.s) 1000 ?_
    simp +contextual (disch := ((try unfold LIM at *); omega)) only [↓bcase_true, ↓bcase_false, WA, simprocAttr, wrap_i64, dV, c]
    refine DrawThen.of 1000 [1] (.old 0 (.old 2 (.old 3 (.go 1 (.new 4 (.go 5 .done)))))) (panFree_pure _ _ _) (by kernel_rfl) (by kernel_rfl) (by kernel_rfl) ?_
    simp +contextual (disch := ((try unfold LIM at *); omega)) only [↓bcase_true, ↓bcase_false, WA, simprocAttr, wrap_i64]
    refine DCall.pure (walk86 fl ol cap (good_of c) S.s) 1000 (.new 4 (.go 5 .done)) (by kernel_rfl) ?_
    simp +contextual (disch := ((try unfold LIM at *); omega)) only [↓bcase_true, ↓bcase_false, WA, simprocAttr, wrap_i64]
  | false =>
    have e1 : seeD fl ol cap = [] := by simp [seeD, c]
    have e2 : fallC fl ol cap = 0 := by simp [fallC, c]
    rw [e1, e2]
    refine PureV.weak ?_ wk_dV0 (fun _ => rfl)
    refine pure_of_run Try.func56 rfl (by kernel_rfl) (by kernel_rfl) (by simp) (fun _ => rfl) (fun _ => rfl) 6 1000 ?_
    simp +contextual (disch := ((try unfold LIM at *); omega)) only [↓bcase_true, ↓bcase_false, WA, simprocAttr, wrap_i64, dV]
    refine CallThen.pure (walk31 fl ol cap S.f S.o S.b S.s) 1000 ?_
    simp +contextual (disch := ((try unfold LIM at *); omega)) only [↓bcase_true, ↓bcase_false, WA, simprocAttr, wrap_i64, dV, c]
theorem new48 (fl : List Fl) (ol : List Opn) (cap : Int) (S : Sized fl ol 1048576) : NewD 48 [.agg (dV fl ol cap)] (seeD fl ol cap) [] (fallC fl ol cap) := by
  refine calls_of_run Try.func48 rfl (by kernel_rfl) (by kernel_rfl) (by simp) 1000 ?_
  simp +contextual (disch := ((try unfold LIM at *); omega)) only [↓bcase_true, ↓bcase_false, WA, simprocAttr, wrap_i64, dV]
  refine CallThen.pure (walk33 fl ol cap S.f S.o S.b S.s) 1000 ?_
  cases c : diskOk fl ol cap with
  | true =>
    have e1 : seeD fl ol cap = seeS fl ol ol.length := by simp [seeD, c]
    have e2 : fallC fl ol cap = cap := by simp [fallC, c]
    rw [e1, e2]
    have ho := S.o
    have n96 := new96 fl ol cap ol.length (good_of c) S.s
    rw [Int.toNat_natCast] at n96
    simp +contextual (disch := ((try unfold LIM at *); omega)) only [↓bcase_true, ↓bcase_false, WA, simprocAttr, wrap_i64, dV, List.length_map]
    intro _
    refine CallThen.newD n96 6 (by simp +contextual (disch := ((try unfold LIM at *); omega)) only [↓bcase_true, ↓bcase_false, WA, simprocAttr, wrap_i64, dV, frzs_f]) 1000 fun c1 c2 hc1 hc2 => ?_
    simp +contextual (disch := ((try unfold LIM at *); omega)) only [↓bcase_true, ↓bcase_false, WA, simprocAttr, wrap_i64, dO, dH]
    refine Up.gc (.agg (dO (seeS fl ol ol.length) [] cap 0 c1 1 c2)) [2, 3] (dH (seeS fl ol ol.length) [] c1 c2) (by simp) ?_ ?_ ⟨c1, c2, hc1, hc2, rfl, rfl⟩
    · exact ⟨.inl ⟨nrs_map fV_nr _, rfl⟩, .inl ⟨rfl, rfl⟩, trivial⟩
    · rfl
  | false =>
    have e1 : seeD fl ol cap = [] := by simp [seeD, c]
    have e2 : fallC fl ol cap = 0 := by simp [fallC, c]
    rw [e1, e2]
    simp +contextual (disch := ((try unfold LIM at *); omega)) only [↓bcase_true, ↓bcase_false, WA, simprocAttr, wrap_i64, dV]
    refine Up.arr (Arr.nilV 2) (.inl (.inr ⟨_, [.sl 2 0 0 0, .z, .s (.int .i64 0)], rfl, rfl, .inr ⟨rfl, rfl⟩, .inl rfl, .inl rfl, trivial⟩)) ?_
    refine Up.arr (Arr.nilV 3) (.inl (.inr ⟨_, [.sl 2 0 0 0, .sl 3 0 0 0, .s (.int .i64 0)], rfl, rfl, .inl rfl, .inr ⟨rfl, rfl⟩, .inl rfl, trivial⟩)) ?_
    refine Up.gc (.agg (dO [] [] 0 0 0 1 0)) [2, 3] (dH [] [] 0 0) (by simp) ?_ ?_ ⟨0, 0, Nat.le_refl _, Nat.le_refl _, rfl, rfl⟩
    · exact ⟨.inl ⟨rfl, rfl⟩, .inl ⟨rfl, rfl⟩, trivial⟩
    · rfl
theorem walk13 (fl : List Fl) (ol : List Opn) (cap : Int)  : PureV C 13 [.agg (dV fl ol cap)] (.s (.bool true)) := by
  refine pure_of_run Try.func13 rfl (by kernel_rfl) (by kernel_rfl) (by simp) (fun _ => rfl) (fun _ => rfl) 6 1000 ?_
  simp +contextual (disch := ((try unfold LIM at *); omega)) only [↓bcase_true, ↓bcase_false, WA, simprocAttr, wrap_i64, dV]
  refine CallThen.pure (walk30 fl ol cap 1048576 (by omega) (by omega)) 1000 ?_
  by_cases c : szD fl ol 1048576 < 0
  · simp +contextual (disch := ((try unfold LIM at *); omega)) only [↓bcase_true, ↓bcase_false, WA, simprocAttr, wrap_i64, c]
  have S := sized_of (fl := fl) (ol := ol) (left := 1048576) (by omega) (by omega)
  have hf := S.f
  have ho := S.o
  simp +contextual (disch := ((try unfold LIM at *); omega)) only [↓bcase_true, ↓bcase_false, WA, simprocAttr, wrap_i64, c]
  refine CallThen.pure (walk32 fl ol cap S.f S.o) 1000 ?_
  simp +contextual (disch := ((try unfold LIM at *); omega)) only [↓bcase_true, ↓bcase_false, WA, simprocAttr, wrap_i64]
  obtain ⟨sl, so, q, wS, nI, hsl, hso⟩ : ∃ sl so q, PureV C 56 [.agg (dV fl ol cap)] (.agg (dV sl so q)) ∧ NewD 48 [.agg (dV fl ol cap)] sl so q ∧ sl.length ≤ 1048576 ∧ so.length ≤ 1048576 := ⟨_, _, _, (walk56 fl ol cap S), (new48 fl ol cap S), by have := see_len (fl := fl) (ol := ol) (cap := cap); omega, by simp⟩
  refine CallThen.pure wS 1000 ?_
  simp +contextual (disch := ((try unfold LIM at *); omega)) only [↓bcase_true, ↓bcase_false, WA, simprocAttr, wrap_i64, dV]
  refine CallThen.newD (new32 fl ol cap S.f S.o) 6 (by simp +contextual (disch := ((try unfold LIM at *); omega)) only [↓bcase_true, ↓bcase_false, WA, simprocAttr, wrap_i64, dV, frzs_f]) 1000 fun c1 c2 hc1 hc2 => ?_
  simp +contextual (disch := ((try unfold LIM at *); omega)) only [↓bcase_true, ↓bcase_false, WA, simprocAttr, wrap_i64, dO, dH]
  refine CallThen.newD nI 6 ?_ 1000 fun c3 c4 hc3 hc4 => ?_
  · simp +contextual (disch := ((try unfold LIM at *); omega)) only [↓bcase_true, ↓bcase_false, WA, simprocAttr, wrap_i64, dV, List.length_map, own_fl, own_ol, fV_frz, oV_frz, Nat.not_lt_zero]
  simp +contextual (disch := ((try unfold LIM at *); omega)) only [↓bcase_true, ↓bcase_false, WA, simprocAttr, wrap_i64, dO, dH]
  refine CallThen.borrow (walk34 sl so q sl so q) (flat_s _) 6 ?_ 1000 ?_
  · simp +contextual (disch := ((try unfold LIM at *); omega)) only [↓bcase_true, ↓bcase_false, WA, simprocAttr, wrap_i64, dV, List.length_map, own_fl, own_ol, fV_frz, oV_frz, Nat.not_lt_zero]
  simp +contextual (disch := ((try unfold LIM at *); omega)) only [↓bcase_true, ↓bcase_false, WA, simprocAttr, wrap_i64, and_self]
  refine DrawThen.of 1000 [2, 3] (.old 0 (.old 1 (.go 2 (.go 3 (.new 4 .done))))) (panFree_pure _ _ _) (by kernel_rfl) (by kernel_rfl) (by kernel_rfl) ?_
  simp +contextual (disch := ((try unfold LIM at *); omega)) only [↓bcase_true, ↓bcase_false, WA, simprocAttr, wrap_i64]
  refine DCall.pure (walk32 fl ol cap S.f S.o) 1000 (.go 3 (.new 4 .done)) (by kernel_rfl) ?_
  simp +contextual (disch := ((try unfold LIM at *); omega)) only [↓bcase_true, ↓bcase_false, WA, simprocAttr, wrap_i64, dV]
  refine DCall.borrow (walk34 fl ol cap fl ol cap) (flat_s _) 6 ?_ 1000 (.new 4 .done) (by kernel_rfl) ?_
  · simp +contextual (disch := ((try unfold LIM at *); omega)) only [↓bcase_true, ↓bcase_false, WA, simprocAttr, wrap_i64, dV, List.length_map, own_fl, own_ol, fV_frz, oV_frz, Nat.not_lt_zero]
  simp +contextual (disch := ((try unfold LIM at *); omega)) only [↓bcase_true, ↓bcase_false, WA, simprocAttr, wrap_i64, and_self]
  refine CallThen.edit (walk51 fl ol cap 1 c1 c2 S.f S.o hc1 hc2 (by omega) (by omega)) [2, 3] (by simp) ⟨.inl ⟨nrs_map fV_nr _, rfl⟩, .inl ⟨nrs_map oV_nr _, rfl⟩, trivial⟩ rfl 1000 ?_
  have p1 : ¬ (1 + 2 * (fl.length : Int) + 3 * (ol.length : Int) < 0) := by omega
  simp +contextual (disch := ((try unfold LIM at *); omega)) only [↓bcase_true, ↓bcase_false, WA, simprocAttr, wrap_i64, WB8, dH, p1]
  refine CallThen.borrow (walk34 sl so q sl so q) (flat_s _) 6 ?_ 1000 ?_
  · simp +contextual (disch := ((try unfold LIM at *); omega)) only [↓bcase_true, ↓bcase_false, WA, simprocAttr, wrap_i64, dV, List.length_map, own_fl, own_ol, fV_frz, oV_frz, Nat.not_lt_zero]
  simp +contextual (disch := ((try unfold LIM at *); omega)) only [↓bcase_true, ↓bcase_false, WA, simprocAttr, wrap_i64, WB8, and_self]
  refine CallThen.edit (walk51 sl so q 1 c3 c4 hsl hso hc3 hc4 (by omega) (by omega)) [5, 6] (by simp) ⟨.inl ⟨nrs_map fV_nr _, rfl⟩, .inl ⟨nrs_map oV_nr _, rfl⟩, trivial⟩ rfl 1000 ?_
  have p2 : ¬ (1 + 2 * (sl.length : Int) + 3 * (so.length : Int) < 0) := by omega
  simp +contextual (disch := ((try unfold LIM at *); omega)) only [↓bcase_true, ↓bcase_false, WA, simprocAttr, wrap_i64, WB8, dH]
  refine CallThen.borrow (walk55 q 1 sl.length so.length hsl hso (by omega) (by omega)) (flat_s _) 6 ?_ 1000 ?_
  · simp +contextual (disch := ((try unfold LIM at *); omega)) only [↓bcase_true, ↓bcase_false, WA, simprocAttr, wrap_i64, dV, List.length_map, fV_frz, oV_frz, Nat.not_lt_zero, markF_len, markF_take, markO_len, markO_take]
  simp +contextual (disch := ((try unfold LIM at *); omega)) only [↓bcase_true, ↓bcase_false, WA, simprocAttr, wrap_i64, WB8, p2, bne_self_eq_false]
  refine CallThen.pure (walk32 fl ol cap S.f S.o) 1000 ?_
  simp +contextual (disch := ((try unfold LIM at *); omega)) only [↓bcase_true, ↓bcase_false, WA, simprocAttr, wrap_i64, WB8, dV]
  refine CallThen.newD nI 6 ?_ 1000 fun c5 c6 hc5 hc6 => ?_
  · simp +contextual (disch := ((try unfold LIM at *); omega)) only [↓bcase_true, ↓bcase_false, WA, simprocAttr, wrap_i64, dV, frzs_f]
  simp +contextual (disch := ((try unfold LIM at *); omega)) only [↓bcase_true, ↓bcase_false, WA, simprocAttr, wrap_i64, WB8, dO, dH]
  refine CallThen.borrow (walk34 sl so q sl so q) (flat_s _) 6 ?_ 1000 ?_
  · simp +contextual (disch := ((try unfold LIM at *); omega)) only [↓bcase_true, ↓bcase_false, WA, simprocAttr, wrap_i64, dV, List.length_map, own_fl, own_ol, fV_frz, oV_frz, Nat.not_lt_zero]
  simp +contextual (disch := ((try unfold LIM at *); omega)) only [↓bcase_true, ↓bcase_false, WA, simprocAttr, wrap_i64, WB8, and_self]
  refine CallThen.borrow (walk55 q 1 sl.length so.length hsl hso (by omega) (by omega)) (flat_s _) 6 ?_ 1000 ?_
  · simp +contextual (disch := ((try unfold LIM at *); omega)) only [↓bcase_true, ↓bcase_false, WA, simprocAttr, wrap_i64, dV, List.length_map, fV_frz, oV_frz, Nat.not_lt_zero, markF_len, markF_take, markO_len, markO_take]
  simp +contextual (disch := ((try unfold LIM at *); omega)) only [↓bcase_true, ↓bcase_false, WA, simprocAttr, wrap_i64, WB8, p2, bne_self_eq_false]
end Go.Proofs.Ytpcgnmoogjahbaa
/- part BD -/
set_option linter.unusedVariables false
set_option maxRecDepth 100000
namespace Go.Proofs.Ytpcgnmoogjahbaa
open Go Go.W Go.RowKit
theorem own0 : ownKnob Try.prog.godebug = none := by kernel_rfl
theorem laidOut0 : laidOutB Try.prog = true := by kernel_rfl
section
variable {H' : Type} {enc : TypeId × Value → H'} {W : World}
theorem c9 : Try.prog.cellsOf 9 = 1 := by kernel_rfl
theorem c3 : Try.prog.cellsOf 3 = 1 := by kernel_rfl
theorem c43 : Try.prog.cellsOf 43 = 1 := by kernel_rfl
theorem c44 : Try.prog.cellsOf 44 = 1 := by kernel_rfl
theorem opn_fl : Go.W.Opn enc Try.prog W 126 fun xs => ∃ f : Fl, xs = fV f := by
  refine (opn_struct (gs := [fun xs => ∃ s, xs = [.s (.string s)], fun xs => ∃ s, xs = [.s (.string s)]]) Try.underlying126 (by kernel_rfl) ⟨rfl, opn_str Try.underlying9, by simp only [c9], opn_str Try.underlying9, rfl⟩).mono fun xs g => ?_
  obtain ⟨_, _, rfl, ⟨s, rfl⟩, _, _, rfl, ⟨s', rfl⟩, rfl⟩ := g
  exact ⟨(s, s'), rfl⟩
theorem opn_op : Go.W.Opn enc Try.prog W 86 fun xs => ∃ o : Opn, xs = oV o := by
  refine (opn_struct (gs := [fun xs => ∃ n, xs = [.s (.int .i64 n)] ∧ (Lit.int .i64 n).wf = true, fun xs => ∃ s, xs = [.s (.string s)], fun xs => ∃ s, xs = [.s (.string s)]]) Try.underlying86 (by kernel_rfl) ⟨rfl, opn_int Try.underlying3, by simp only [c3], opn_str Try.underlying9, by simp only [c3, c9], opn_str Try.underlying9, rfl⟩).mono fun xs g => ?_
  obtain ⟨_, _, rfl, ⟨k, rfl, _⟩, _, _, rfl, ⟨s, rfl⟩, _, _, rfl, ⟨s', rfl⟩, rfl⟩ := g
  exact ⟨(k, s, s'), rfl⟩
theorem opn_disk : Go.W.Opn enc Try.prog W 46 fun xs => ∃ fl ol cap, xs = dV fl ol cap := by
  have e1 : Go.W.Opn enc Try.prog W 43 fun xs => ∃ els, xs = [.f 2 els] ∧ ∀ el ∈ els, ∃ f : Fl, el = fV f := opn_slice (n := 1) Try.underlying43 (by kernel_rfl) opn_fl
  have e2 : Go.W.Opn enc Try.prog W 44 fun xs => ∃ els, xs = [.f 3 els] ∧ ∀ el ∈ els, ∃ o : Opn, el = oV o := opn_slice (n := 2) Try.underlying44 (by kernel_rfl) opn_op
  refine (opn_struct (gs := [_, _, _]) Try.underlying46 (by kernel_rfl) ⟨rfl, e1, by simp only [c43], e2, by simp only [c43, c44], opn_int Try.underlying3, rfl⟩).mono fun xs g => ?_
  obtain ⟨_, _, rfl, ⟨els, rfl, h1⟩, _, _, rfl, ⟨els', rfl, h2⟩, _, _, rfl, ⟨n, rfl, _⟩, rfl⟩ := g
  obtain ⟨fl, rfl⟩ := map_of h1
  obtain ⟨ol, rfl⟩ := map_of h2
  exact ⟨fl, ol, n, rfl⟩
end
end Go.Proofs.Ytpcgnmoogjahbaa
