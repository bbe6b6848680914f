/- What functions of the program answer, walked on the abstract layer, and closed facts of the program; the conditions stand in each theorem. -/
import Derived.Test.YtpcgnmoogjahbaaG4
import Derived.Test.YtpcgnmoogjahbaaRows
import Derived.WalkKit
import Derived.ProofKit
import Derived.OpenShut
import Derived.ShutString
import Derived.ChangeOld
import Derived.Below
import Derived.SizedLaws
/- part D25 -/
set_option linter.unusedVariables false
set_option linter.unusedSimpArgs false
set_option maxRecDepth 100000
namespace Go.Proofs.Ytpcgnmoogjahbaa
open Go Go.W Go.RowKit
/-- A disk whose slices are one's own. -/
def dO (fl : List Fl) (ol : List Opn) (cap : Int) (b1 c1 b2 c2 : Nat) : List V := [.sl b1 0 fl.length c1, .sl b2 0 ol.length c2, .s (.int .i64 cap)]
def dH (fl : List Fl) (ol : List Opn) (c1 c2 : Nat) : Go.W.H := [⟨fl.map fV, 2, c1, true⟩, ⟨ol.map oV, 3, c2, true⟩]
def NewD (f : Nat) (args : List V) (fl : List Fl) (ol : List Opn) (cap : Int) : Prop :=
  CallsV C f args [] fun res h' => ∃ c1 c2, fl.length ≤ c1 ∧ ol.length ≤ c2 ∧ res = .ret (.agg (dO fl ol cap 0 c1 1 c2)) ∧ h' = dH fl ol c1 c2
theorem NewD.at_ {f : Nat} {args args' : List V} {fl : List Fl} {ol : List Opn} {cap : Int} (p : NewD f args fl ol cap) (d : Nat) (H : Go.W.H) (ha : args = args'.map (frz 0 d H)) :
    CallsV C f args' H fun res h' => ∃ c1 c2, fl.length ≤ c1 ∧ ol.length ≤ c2 ∧ res = .ret (.agg (dO fl ol cap H.length c1 (H.length + 1) c2)) ∧ h' = H ++ dH fl ol c1 c2 := by
  refine (CallsV.lend p ?_ d H ha).mono fun res h' ⟨r, h1, ⟨c1, c2, q1, q2, q3, q4⟩, q5, q6⟩ => ⟨c1, c2, q1, q2, ?_, by rw [q6, q4]⟩
  · rintro r h' ⟨c1, c2, q1, q2, rfl, rfl⟩
    exact ⟨rfl, by simp [dH, plains_map fV_plain, plains_map oV_plain]⟩
  · rw [q5, q3]; rfl
theorem CallThen.newD {N n0 : Nat} {Q : QT} {k : List It} {τ : Tau} {h : Go.W.H} {f : Nat} {args args' : List V} {fl : List Fl} {ol : List Opn} {cap : Int} {d : Option Nat} (p : NewD f args fl ol cap) (dd : Nat) (ha : args = args'.map (frz 0 dd h)) (m : Nat)
    (hr : ∀ c1 c2, fl.length ≤ c1 → ol.length ≤ c2 → Run C N n0 m Q k (upo d (.agg (dO fl ol cap h.length c1 (h.length + 1) c2)) τ) (h ++ dH fl ol c1 c2)) : CallThen C N n0 Q f args' d k τ h :=
  CallThen.of m (p.at_ dd h ha) fun res h' ⟨c1, c2, e1, e2, e3, e4⟩ => by subst e3; subst e4; exact hr c1 c2 e1 e2
theorem new32 (fl : List Fl) (ol : List Opn) (cap : Int) (hf : fl.length ≤ 1048576) (ho : ol.length ≤ 1048576) : NewD 32 [.agg (dV fl ol cap)] fl ol cap := by
  refine calls_of_run Try.func32 rfl (by kernel_rfl) (by kernel_rfl) (by simp) 1000 ?_
  simp +contextual (maxSteps := 2000000) (disch := ((try unfold LIM at *); omega)) only [↓bcase_true, ↓bcase_false, WA, simprocAttr, wrap_i64, dV]
  refine CallThen.new (new72 fl hf) (nrs_map fV_nr _) (fun _ => rfl) 1000 fun c1 hc1 => ?_
  rw [List.length_map] at hc1
  simp +contextual (maxSteps := 2000000) (disch := ((try unfold LIM at *); omega)) only [↓bcase_true, ↓bcase_false, WA, simprocAttr, wrap_i64, dV]
  refine CallThen.new (new73 ol ho) (nrs_map oV_nr _) (fun _ => rfl) 1000 fun c2 hc2 => ?_
  rw [List.length_map] at hc2
  simp +contextual (maxSteps := 2000000) (disch := ((try unfold LIM at *); omega)) only [↓bcase_true, ↓bcase_false, WA, simprocAttr, wrap_i64, dV, List.length_map]
  refine Up.gc (.agg (dO fl ol cap 0 c1 1 c2)) [3, 4] (dH fl ol c1 c2) (by simp) ?_ ?_ ⟨c1, c2, hc1, hc2, rfl, rfl⟩
  · exact ⟨.inl ⟨nrs_map fV_nr _, rfl⟩, .inl ⟨nrs_map oV_nr _, rfl⟩, trivial⟩
  · rfl
theorem walk51 (fl : List Fl) (ol : List Opn) (cap k : Int) (c1 c2 : Nat) (hf : fl.length ≤ 1048576) (ho : ol.length ≤ 1048576) (hc1 : fl.length ≤ c1) (hc2 : ol.length ≤ c2) (h0 : 0 ≤ k) (h1 : k ≤ 900000000) :
    EditV C 51 [.agg (dO fl ol cap 0 c1 1 c2), .s (.int .i64 k)] (dH fl ol c1 c2) (.s (.int .i64 (k + 2 * fl.length + 3 * ol.length))) (dH (markF k fl.length) (markO (k + 2 * fl.length) ol.length) c1 c2) := by
  refine ⟨fun _ => rfl, by simp [dH, nrs_map fV_nr, nrs_map oV_nr], ?_⟩
  refine calls_of_run Try.func51 rfl (by kernel_rfl) (by kernel_rfl) (by simp) 1000 ?_
  simp +contextual (maxSteps := 2000000) (disch := ((try unfold LIM at *); omega)) only [↓bcase_true, ↓bcase_false, WA, simprocAttr, wrap_i64, dO, dH]
  refine CallThen.edit (walk52 fl k c1 hf hc1 h0 (by omega)) [0] (by simp) ⟨.inl ⟨nrs_map fV_nr _, rfl⟩, trivial⟩ rfl 1000 ?_
  simp +contextual (maxSteps := 2000000) (disch := ((try unfold LIM at *); omega)) only [↓bcase_true, ↓bcase_false, WA, simprocAttr, wrap_i64, WB8]
  refine CallThen.edit (walk99 ol (k + 2 * fl.length) c2 ho hc2 (by omega) (by omega)) [1] (by simp) ⟨.inl ⟨nrs_map oV_nr _, rfl⟩, trivial⟩ rfl 1000 ?_
  simp +contextual (maxSteps := 2000000) (disch := ((try unfold LIM at *); omega)) only [↓bcase_true, ↓bcase_false, WA, simprocAttr, wrap_i64, WB8]
  exact Up.keep (dH (markF k fl.length) (markO (k + 2 * fl.length) ol.length) c1 c2) (fun _ => rfl) rfl (by show gcL _ _ [0, 1] _; exact ⟨.inl ⟨nrs_map fV_nr _, rfl⟩, .inl ⟨nrs_map oV_nr _, rfl⟩, trivial⟩) ⟨rfl, rfl⟩
theorem walk55 (cap k : Int) (n m : Nat) (hf : n ≤ 1048576) (ho : m ≤ 1048576) (h0 : 0 ≤ k) (h1 : k ≤ 900000000) :
    PureV C 55 [.agg (dV (markF k n) (markO (k + 2 * n) m) cap), .s (.int .i64 k)] (.s (.int .i64 (k + 2 * n + 3 * m))) := by
  refine pure_of_run Try.func55 rfl (by kernel_rfl) (by kernel_rfl) (by simp) (fun _ => rfl) (fun _ => rfl) 6 1000 ?_
  simp +contextual (maxSteps := 2000000) (disch := ((try unfold LIM at *); omega)) only [↓bcase_true, ↓bcase_false, WA, simprocAttr, wrap_i64, dV]
  refine CallThen.pure (walk53 k n hf h0 (by omega)) 1000 ?_
  have p1 : ¬ (k + 2 * (n : Int) < 0) := by omega
  simp +contextual (maxSteps := 2000000) (disch := ((try unfold LIM at *); omega)) only [↓bcase_true, ↓bcase_false, WA, simprocAttr, wrap_i64, dV, p1]
  refine CallThen.pure (walk101 (k + 2 * n) m ho (by omega) (by omega)) 1000 ?_
  have p2 : ¬ (k + 2 * (n : Int) + 3 * (m : Int) < 0) := by omega
  simp +contextual (maxSteps := 2000000) (disch := ((try unfold LIM at *); omega)) only [↓bcase_true, ↓bcase_false, WA, simprocAttr, wrap_i64, dV, p2]
theorem new39 (fl : List Fl) (ol : List Opn) (cap : Int) (S : Sized fl ol 1048576) : NewV C 39 [.agg (dV fl ol cap)] 2 ((seeD fl ol cap).map fV) := by
  refine calls_of_run Try.func39 rfl (by kernel_rfl) (by kernel_rfl) (by simp) 1000 ?_
  simp +contextual (maxSteps := 2000000) (disch := ((try unfold LIM at *); omega)) only [↓bcase_true, ↓bcase_false, WA, simprocAttr, wrap_i64, dV]
  refine CallThen.pure (walk33 fl ol cap S.f S.o S.b S.s) 1000 ?_
  cases c : diskOk fl ol cap with
  | true =>
    have e : seeD fl ol cap = seeS fl ol ol.length := by simp [seeD, c]
    rw [e]
    simp +contextual (maxSteps := 2000000) (disch := ((try unfold LIM at *); omega)) only [↓bcase_true, ↓bcase_false, WA, simprocAttr, wrap_i64, dV]
    refine CallThen.new (walk87 fl ol cap (good_of c) S.s) (nrs_map fV_nr _) (fun _ => rfl) 1000 fun cp hc => ?_
    rw [List.length_map] at hc
    simp +contextual (maxSteps := 2000000) (disch := ((try unfold LIM at *); omega)) only [↓bcase_true, ↓bcase_false, WA, simprocAttr, wrap_i64, List.length_map]
    exact Up.fresh (b := 1) rfl (nrs_map fV_nr _) ⟨cp, hc, rfl, rfl⟩
  | false =>
    have e : seeD fl ol cap = [] := by simp [seeD, c]
    rw [e]
    simp +contextual (maxSteps := 2000000) (disch := ((try unfold LIM at *); omega)) only [↓bcase_true, ↓bcase_false, WA, simprocAttr, wrap_i64, dV]
    exact Up.nil 2 ⟨0, Nat.le_refl _, rfl, rfl⟩
end Go.Proofs.Ytpcgnmoogjahbaa
/- part D26 -/
set_option linter.unusedVariables false
set_option linter.unusedSimpArgs false
set_option maxRecDepth 100000
namespace Go.Proofs.Ytpcgnmoogjahbaa
open Go Go.W Go.RowKit
theorem own_fl {l : List Fl} {cap : Nat} : elsOf 0 l.length (some ⟨l.map fV, 2, cap, true⟩) = some (l.map fV) := by simp [elsOf, List.take_of_length_le]
theorem own_ol {l : List Opn} {cap : Nat} : elsOf 0 l.length (some ⟨l.map oV, 3, cap, true⟩) = some (l.map oV) := by simp [elsOf, List.take_of_length_le]
theorem markF_take (k : Int) (n : Nat) : List.take n ((markF k n).map fV) = (markF k n).map fV := List.take_of_length_le (by simp [markF_len])
theorem markO_take (k : Int) (n : Nat) : List.take n ((markO k n).map oV) = (markO k n).map oV := List.take_of_length_le (by simp [markO_len])
theorem see_len {fl : List Fl} {ol : List Opn} {cap : Int} : (seeD fl ol cap).length ≤ 20 := by
  unfold seeD; split
  · rename_i c; exact ((good_of c).size _).1
  · simp
theorem walk11 (fl : List Fl) (ol : List Opn) (cap : Int) : PureV C 11 [.agg (dV fl ol cap)] (.s (.bool true)) := by
  refine pure_of_run Try.func11 rfl (by kernel_rfl) (by kernel_rfl) (by simp) (fun _ => rfl) (fun _ => rfl) 6 1000 ?_
  simp +contextual (maxSteps := 2000000) (disch := ((try unfold LIM at *); omega)) only [↓bcase_true, ↓bcase_false, WA, simprocAttr, wrap_i64, dV]
  refine CallThen.pure (walk30 fl ol cap 1048576 (by omega) (by omega)) 1000 ?_
  by_cases c : szD fl ol 1048576 < 0
  · simp +contextual (maxSteps := 2000000) (disch := ((try unfold LIM at *); omega)) only [↓bcase_true, ↓bcase_false, WA, simprocAttr, wrap_i64, c]
  have S := sized_of (fl := fl) (ol := ol) (left := 1048576) (by omega) (by omega)
  simp +contextual (maxSteps := 2000000) (disch := ((try unfold LIM at *); omega)) only [↓bcase_true, ↓bcase_false, WA, simprocAttr, wrap_i64, c]
  refine CallThen.pure (walk32 fl ol cap S.f S.o) 1000 ?_
  simp +contextual (maxSteps := 2000000) (disch := ((try unfold LIM at *); omega)) only [↓bcase_true, ↓bcase_false, WA, simprocAttr, wrap_i64]
  refine CallThen.pure (walk46 fl ol cap S) 1000 ?_
  simp +contextual (maxSteps := 2000000) (disch := ((try unfold LIM at *); omega)) only [↓bcase_true, ↓bcase_false, WA, simprocAttr, wrap_i64, dV]
  refine CallThen.newD (new32 fl ol cap S.f S.o) 6 (by simp +contextual (maxSteps := 2000000) (disch := ((try unfold LIM at *); omega)) only [↓bcase_true, ↓bcase_false, WA, simprocAttr, wrap_i64, dV, frzs_f]) 1000 fun c1 c2 hc1 hc2 => ?_
  simp +contextual (maxSteps := 2000000) (disch := ((try unfold LIM at *); omega)) only [↓bcase_true, ↓bcase_false, WA, simprocAttr, wrap_i64, dO, dH]
  refine CallThen.newB (new39 fl ol cap S) (plains_map fV_plain _) 6 ?_ 1000 fun c3 hc3 => ?_
  · simp +contextual (maxSteps := 2000000) (disch := ((try unfold LIM at *); omega)) only [↓bcase_true, ↓bcase_false, WA, simprocAttr, wrap_i64, dV, List.length_map, own_fl, own_ol, fV_frz, oV_frz, Nat.not_lt_zero]
  rw [List.length_map] at hc3
  generalize hs : seeD fl ol cap = sl at *
  have sl20 : sl.length ≤ 20 := hs ▸ see_len
  simp +contextual (maxSteps := 2000000) (disch := ((try unfold LIM at *); omega)) only [↓bcase_true, ↓bcase_false, WA, simprocAttr, wrap_i64, List.length_map]
  refine CallThen.borrow (walk50 sl sl) (flat_s _) 6 ?_ 1000 ?_
  · simp +contextual (maxSteps := 2000000) (disch := ((try unfold LIM at *); omega)) only [↓bcase_true, ↓bcase_false, WA, simprocAttr, wrap_i64, List.length_map, fV_frz, Nat.not_lt_zero, own_fl]
  simp +contextual (maxSteps := 2000000) (disch := ((try unfold LIM at *); omega)) only [↓bcase_true, ↓bcase_false, WA, simprocAttr, wrap_i64]
  refine DrawThen.of 1000 [1, 2] (.old 0 (.old 1 (.go 2 (.go 3 (.new 4 .done))))) (panFree_pure _ _ _) (by kernel_rfl) (by kernel_rfl) (by kernel_rfl) ?_
  simp +contextual (maxSteps := 2000000) (disch := ((try unfold LIM at *); omega)) only [↓bcase_true, ↓bcase_false, WA, simprocAttr, wrap_i64]
  refine DCall.pure (walk32 fl ol cap S.f S.o) 1000 (.go 3 (.new 4 .done)) (by kernel_rfl) ?_
  simp +contextual (maxSteps := 2000000) (disch := ((try unfold LIM at *); omega)) only [↓bcase_true, ↓bcase_false, WA, simprocAttr, wrap_i64, dV]
  refine DCall.borrow (walk34 fl ol cap fl ol cap) (flat_s _) 6 ?_ 1000 (.new 4 .done) (by kernel_rfl) ?_
  · simp +contextual (maxSteps := 2000000) (disch := ((try unfold LIM at *); omega)) only [↓bcase_true, ↓bcase_false, WA, simprocAttr, wrap_i64, dV, List.length_map, own_fl, own_ol, fV_frz, oV_frz, Nat.not_lt_zero]
  simp +contextual (maxSteps := 2000000) (disch := ((try unfold LIM at *); omega)) only [↓bcase_true, ↓bcase_false, WA, simprocAttr, wrap_i64, and_self]
  refine CallThen.edit (walk51 fl ol cap 1 c1 c2 S.f S.o hc1 hc2 (by omega) (by omega)) [1, 2] (by simp) ⟨.inl ⟨nrs_map fV_nr _, rfl⟩, .inl ⟨nrs_map oV_nr _, rfl⟩, trivial⟩ rfl 1000 ?_
  have hf := S.f
  have ho := S.o
  have p1 : ¬ (1 + 2 * (fl.length : Int) + 3 * (ol.length : Int) < 0) := by omega
  simp +contextual (maxSteps := 2000000) (disch := ((try unfold LIM at *); omega)) only [↓bcase_true, ↓bcase_false, WA, simprocAttr, wrap_i64, WB8, dH, p1]
  refine CallThen.borrow (walk50 sl sl) (flat_s _) 6 ?_ 1000 ?_
  · simp +contextual (maxSteps := 2000000) (disch := ((try unfold LIM at *); omega)) only [↓bcase_true, ↓bcase_false, WA, simprocAttr, wrap_i64, List.length_map, fV_frz, Nat.not_lt_zero, own_fl]
  simp +contextual (maxSteps := 2000000) (disch := ((try unfold LIM at *); omega)) only [↓bcase_true, ↓bcase_false, WA, simprocAttr, wrap_i64, WB8]
  refine CallThen.edit (walk52 sl 1 c3 (by omega) hc3 (by omega) (by omega)) [4] (by simp) ⟨.inl ⟨nrs_map fV_nr _, rfl⟩, trivial⟩ rfl 1000 ?_
  simp +contextual (maxSteps := 2000000) (disch := ((try unfold LIM at *); omega)) only [↓bcase_true, ↓bcase_false, WA, simprocAttr, wrap_i64, WB8]
  have hm : ∀ cap, elsOf 0 sl.length (some ⟨(markF 1 sl.length).map fV, 2, cap, true⟩) = some ((markF 1 sl.length).map fV) := fun cap => by simp [elsOf, List.take_of_length_le, markF_len]
  refine CallThen.borrow (walk53 1 sl.length (by omega) (by omega) (by omega)) (flat_s _) 6 ?_ 1000 ?_
  · simp +contextual (maxSteps := 2000000) (disch := ((try unfold LIM at *); omega)) only [↓bcase_true, ↓bcase_false, WA, simprocAttr, wrap_i64, List.length_map, fV_frz, Nat.not_lt_zero, markF_len, markF_take]
  have p2 : ¬ (1 + 2 * (sl.length : Int) < 0) := by omega
  simp +contextual (maxSteps := 2000000) (disch := ((try unfold LIM at *); omega)) only [↓bcase_true, ↓bcase_false, WA, simprocAttr, wrap_i64, WB8, p2, bne_self_eq_false]
  refine CallThen.pure (walk32 fl ol cap S.f S.o) 1000 ?_
  simp +contextual (maxSteps := 2000000) (disch := ((try unfold LIM at *); omega)) only [↓bcase_true, ↓bcase_false, WA, simprocAttr, wrap_i64, WB8]
  have n39 := new39 fl ol cap S
  rw [hs] at n39
  refine CallThen.new n39 (nrs_map fV_nr _) (fun _ => rfl) 1000 fun c4 hc4 => ?_
  rw [List.length_map] at hc4
  simp +contextual (maxSteps := 2000000) (disch := ((try unfold LIM at *); omega)) only [↓bcase_true, ↓bcase_false, WA, simprocAttr, wrap_i64, WB8, List.length_map]
  refine CallThen.borrow (walk50 sl sl) (flat_s _) 6 ?_ 1000 ?_
  · simp +contextual (maxSteps := 2000000) (disch := ((try unfold LIM at *); omega)) only [↓bcase_true, ↓bcase_false, WA, simprocAttr, wrap_i64, List.length_map, fV_frz, Nat.not_lt_zero, own_fl]
  simp +contextual (maxSteps := 2000000) (disch := ((try unfold LIM at *); omega)) only [↓bcase_true, ↓bcase_false, WA, simprocAttr, wrap_i64, WB8]
  refine CallThen.borrow (walk53 1 sl.length (by omega) (by omega) (by omega)) (flat_s _) 6 ?_ 1000 ?_
  · simp +contextual (maxSteps := 2000000) (disch := ((try unfold LIM at *); omega)) only [↓bcase_true, ↓bcase_false, WA, simprocAttr, wrap_i64, List.length_map, fV_frz, Nat.not_lt_zero, markF_len, markF_take]
  simp +contextual (maxSteps := 2000000) (disch := ((try unfold LIM at *); omega)) only [↓bcase_true, ↓bcase_false, WA, simprocAttr, wrap_i64, WB8, p2, bne_self_eq_false]
end Go.Proofs.Ytpcgnmoogjahbaa
/- part D27 -/
set_option linter.unusedVariables false
set_option linter.unusedSimpArgs false
set_option maxRecDepth 100000
namespace Go.Proofs.Ytpcgnmoogjahbaa
open Go Go.W Go.RowKit
def fallF (fl : List Fl) (ol : List Opn) (cap keep : Int) : List Fl := if diskOk fl ol cap = true then seeS fl ol keep.toNat else []
def fallC (fl : List Fl) (ol : List Opn) (cap : Int) : Int := if diskOk fl ol cap = true then cap else 0
theorem wk_dV (fl : List Fl) (cap : Int) : WkV (.agg [.f 2 (fl.map fV), .z, .s (.int .i64 cap)]) (.agg (dV fl [] cap)) := wkV_agg ⟨wkC_refl _, wkC_z 3, wkC_refl _, trivial⟩
theorem wk_dV0 : WkV (.agg [.z, .z, .s (.int .i64 0)]) (.agg (dV [] [] 0)) := wkV_agg ⟨wkC_z 2, wkC_z 3, wkC_refl _, trivial⟩
theorem walk54 (fl : List Fl) (ol : List Opn) (cap keep : Int) (S : Sized fl ol 1048576) : PureV C 54 [.agg (dV fl ol cap), .s (.int .i64 keep)] (.agg (dV (fallF fl ol cap keep) [] (fallC fl ol cap))) := by
  cases c : diskOk fl ol cap with
  | true =>
    have e1 : fallF fl ol cap keep = seeS fl ol keep.toNat := by simp [fallF, c]
    have e2 : fallC fl ol cap = cap := by simp [fallC, c]
    rw [e1, e2]
    refine PureV.weak ?_ (wk_dV _ _) (fun _ => rfl)
    refine pure_of_run Try.func54 rfl (by kernel_rfl) (by kernel_rfl) (by simp) (fun _ => rfl) (fun _ => rfl) 6 1000 ?_
    simp +contextual (maxSteps := 2000000) (disch := ((try unfold LIM at *); omega)) only [↓bcase_true, ↓bcase_false, WA, simprocAttr, wrap_i64, dV]
    refine CallThen.pure (walk31 fl ol cap S.f S.o S.b S.s) 1000 ?_
    simp +contextual (maxSteps := 2000000) (disch := ((try unfold LIM at *); omega)) only [↓bcase_true, ↓bcase_false, WA, simprocAttr, wrap_i64, dV, c]
    refine DrawThen.of 1000 [1] (.old 0 (.old 1 (.old 2 (.old 3 (.old 4 (.old 6 (.old 7 (.go 5 (.new 8 (.go 9 .done)))))))))) (panFree_pure _ _ _) (by kernel_rfl) (by kernel_rfl) (by kernel_rfl) ?_
    simp +contextual (maxSteps := 2000000) (disch := ((try unfold LIM at *); omega)) only [↓bcase_true, ↓bcase_false, WA, simprocAttr, wrap_i64]
    refine DCall.pure (walk100 fl ol cap keep (good_of c) S.s) 1000 (.new 8 (.go 9 .done)) (by kernel_rfl) ?_
    simp +contextual (maxSteps := 2000000) (disch := ((try unfold LIM at *); omega)) only [↓bcase_true, ↓bcase_false, WA, simprocAttr, wrap_i64]
  | false =>
    have e1 : fallF fl ol cap keep = [] := by simp [fallF, c]
    have e2 : fallC fl ol cap = 0 := by simp [fallC, c]
    rw [e1, e2]
    refine PureV.weak ?_ wk_dV0 (fun _ => rfl)
    refine pure_of_run Try.func54 rfl (by kernel_rfl) (by kernel_rfl) (by simp) (fun _ => rfl) (fun _ => rfl) 6 1000 ?_
    simp +contextual (maxSteps := 2000000) (disch := ((try unfold LIM at *); omega)) only [↓bcase_true, ↓bcase_false, WA, simprocAttr, wrap_i64, dV]
    refine CallThen.pure (walk31 fl ol cap S.f S.o S.b S.s) 1000 ?_
    simp +contextual (maxSteps := 2000000) (disch := ((try unfold LIM at *); omega)) only [↓bcase_true, ↓bcase_false, WA, simprocAttr, wrap_i64, dV, c]
theorem new96 (fl : List Fl) (ol : List Opn) (cap keep : Int) (g : Good fl ol cap) (hs : ∀ o ∈ ol, oneO o ≤ 1048576) : NewD 96 [.agg (dV fl ol cap), .s (.int .i64 keep)] (seeS fl ol keep.toNat) [] cap := by
  refine calls_of_run Try.func96 rfl (by kernel_rfl) (by kernel_rfl) (by simp) 1000 ?_
  simp +contextual (maxSteps := 2000000) (disch := ((try unfold LIM at *); omega)) only [↓bcase_true, ↓bcase_false, WA, simprocAttr, wrap_i64, dV]
  refine DrawThen.of 1000 [1] (.old 0 (.old 1 (.old 2 (.old 3 (.old 4 (.old 5 (.old 6 (.old 8 (.old 9 (.go 7 (.new 10 (.go 11 .done)))))))))))) (panFree_body _ _) (by kernel_rfl) (by kernel_rfl) (by kernel_rfl) ?_
  have hk : (if (ol.length : Int) < (if keep < 0 then 0 else keep) then (ol.length : Int) else if keep < 0 then 0 else keep) = ((min keep.toNat ol.length : Nat) : Int) := by
    split <;> split at * <;> omega
  have hse : seeS fl ol (min keep.toNat ol.length) = seeS fl ol keep.toNat := by
    by_cases q : keep.toNat ≤ ol.length
    · rw [Nat.min_eq_left q]
    · rw [Nat.min_eq_right (by omega), see_all (i := keep.toNat) (by omega)]
  have hs118 := walk118 fl ol cap (min keep.toNat ol.length) (Nat.min_le_right _ _) g hs
  rw [hse] at hs118
  simp +contextual (maxSteps := 2000000) (disch := ((try unfold LIM at *); omega)) only [↓bcase_true, ↓bcase_false, WA, simprocAttr, wrap_i64, dV, List.length_map, hk]
  intro _
  refine DCall.new hs118 (nrs_map fV_nr _) (fun _ => rfl) 1000 (.new 10 (.go 11 .done)) (by kernel_rfl) fun cp hc => ?_
  rw [List.length_map] at hc
  simp +contextual (maxSteps := 2000000) (disch := ((try unfold LIM at *); omega)) only [↓bcase_true, ↓bcase_false, WA, simprocAttr, wrap_i64, dV, List.length_map]
  refine Up.arr (Arr.nilV 3) (.inl (.inr ⟨_, [.sl 2 0 (seeS fl ol keep.toNat).length cp, .sl 3 0 0 0, .s (.int .i64 cap)], rfl, rfl, .inl rfl, .inr ⟨rfl, rfl⟩, .inl rfl, trivial⟩)) ?_
  refine Up.gc (.agg (dO (seeS fl ol keep.toNat) [] cap 0 cp 1 0)) [2, 3] (dH (seeS fl ol keep.toNat) [] cp 0) (by simp) ?_ ?_ ⟨cp, 0, hc, Nat.le_refl _, rfl, rfl⟩
  · exact ⟨.inl ⟨nrs_map fV_nr _, rfl⟩, .inl ⟨rfl, rfl⟩, trivial⟩
  · rfl
theorem new47 (fl : List Fl) (ol : List Opn) (cap keep : Int) (S : Sized fl ol 1048576) : NewD 47 [.agg (dV fl ol cap), .s (.int .i64 keep)] (fallF fl ol cap keep) [] (fallC fl ol cap) := by
  refine calls_of_run Try.func47 rfl (by kernel_rfl) (by kernel_rfl) (by simp) 1000 ?_
  simp +contextual (maxSteps := 2000000) (disch := ((try unfold LIM at *); omega)) only [↓bcase_true, ↓bcase_false, WA, simprocAttr, wrap_i64, dV]
  refine CallThen.pure (walk33 fl ol cap S.f S.o S.b S.s) 1000 ?_
  cases c : diskOk fl ol cap with
  | true =>
    have e1 : fallF fl ol cap keep = seeS fl ol keep.toNat := by simp [fallF, c]
    have e2 : fallC fl ol cap = cap := by simp [fallC, c]
    rw [e1, e2]
    simp +contextual (maxSteps := 2000000) (disch := ((try unfold LIM at *); omega)) only [↓bcase_true, ↓bcase_false, WA, simprocAttr, wrap_i64, dV]
    refine CallThen.newD (new96 fl ol cap keep (good_of c) S.s) 6 (by simp +contextual (maxSteps := 2000000) (disch := ((try unfold LIM at *); omega)) only [↓bcase_true, ↓bcase_false, WA, simprocAttr, wrap_i64, dV, frzs_f]) 1000 fun c1 c2 hc1 hc2 => ?_
    simp +contextual (maxSteps := 2000000) (disch := ((try unfold LIM at *); omega)) only [↓bcase_true, ↓bcase_false, WA, simprocAttr, wrap_i64, dO, dH]
    refine Up.gc (.agg (dO (seeS fl ol keep.toNat) [] cap 0 c1 1 c2)) [2, 3] (dH (seeS fl ol keep.toNat) [] c1 c2) (by simp) ?_ ?_ ⟨c1, c2, hc1, hc2, rfl, rfl⟩
    · exact ⟨.inl ⟨nrs_map fV_nr _, rfl⟩, .inl ⟨rfl, rfl⟩, trivial⟩
    · rfl
  | false =>
    have e1 : fallF fl ol cap keep = [] := by simp [fallF, c]
    have e2 : fallC fl ol cap = 0 := by simp [fallC, c]
    rw [e1, e2]
    simp +contextual (maxSteps := 2000000) (disch := ((try unfold LIM at *); omega)) only [↓bcase_true, ↓bcase_false, WA, simprocAttr, wrap_i64, dV]
    refine Up.arr (Arr.nilV 2) (.inl (.inr ⟨_, [.sl 2 0 0 0, .z, .s (.int .i64 0)], rfl, rfl, .inr ⟨rfl, rfl⟩, .inl rfl, .inl rfl, trivial⟩)) ?_
    refine Up.arr (Arr.nilV 3) (.inl (.inr ⟨_, [.sl 2 0 0 0, .sl 3 0 0 0, .s (.int .i64 0)], rfl, rfl, .inl rfl, .inr ⟨rfl, rfl⟩, .inl rfl, trivial⟩)) ?_
    refine Up.gc (.agg (dO [] [] 0 0 0 1 0)) [2, 3] (dH [] [] 0 0) (by simp) ?_ ?_ ⟨0, 0, Nat.le_refl _, Nat.le_refl _, rfl, rfl⟩
    · exact ⟨.inl ⟨rfl, rfl⟩, .inl ⟨rfl, rfl⟩, trivial⟩
    · rfl
end Go.Proofs.Ytpcgnmoogjahbaa
/- part D28 -/
set_option linter.unusedVariables false
set_option linter.unusedSimpArgs false
set_option maxRecDepth 100000
namespace Go.Proofs.Ytpcgnmoogjahbaa
open Go Go.W Go.RowKit
theorem fall_len {fl : List Fl} {ol : List Opn} {cap keep : Int} : (fallF fl ol cap keep).length ≤ 20 := by
  unfold fallF; split
  · rename_i c; exact ((good_of c).size _).1
  · simp
theorem walk12 (fl : List Fl) (ol : List Opn) (cap : Int) (keep : Int) : PureV C 12 [.agg (dV fl ol cap), .s (.int .i64 keep)] (.s (.bool true)) := by
  refine pure_of_run Try.func12 rfl (by kernel_rfl) (by kernel_rfl) (by simp) (fun _ => rfl) (fun _ => rfl) 6 1000 ?_
  simp +contextual (maxSteps := 2000000) (disch := ((try unfold LIM at *); omega)) only [↓bcase_true, ↓bcase_false, WA, simprocAttr, wrap_i64, dV]
  refine CallThen.pure (walk30 fl ol cap 1048576 (by omega) (by omega)) 1000 ?_
  by_cases c : szD fl ol 1048576 < 0
  · simp +contextual (maxSteps := 2000000) (disch := ((try unfold LIM at *); omega)) only [↓bcase_true, ↓bcase_false, WA, simprocAttr, wrap_i64, c]
  have S := sized_of (fl := fl) (ol := ol) (left := 1048576) (by omega) (by omega)
  have hf := S.f
  have ho := S.o
  simp +contextual (maxSteps := 2000000) (disch := ((try unfold LIM at *); omega)) only [↓bcase_true, ↓bcase_false, WA, simprocAttr, wrap_i64, c]
  refine CallThen.pure (walk32 fl ol cap S.f S.o) 1000 ?_
  simp +contextual (maxSteps := 2000000) (disch := ((try unfold LIM at *); omega)) only [↓bcase_true, ↓bcase_false, WA, simprocAttr, wrap_i64]
  obtain ⟨sl, so, q, wS, nI, hsl, hso⟩ : ∃ sl so q, PureV C 54 [.agg (dV fl ol cap), .s (.int .i64 keep)] (.agg (dV sl so q)) ∧ NewD 47 [.agg (dV fl ol cap), .s (.int .i64 keep)] sl so q ∧ sl.length ≤ 1048576 ∧ so.length ≤ 1048576 := ⟨_, _, _, (walk54 fl ol cap keep S), (new47 fl ol cap keep S), by have := fall_len (fl := fl) (ol := ol) (cap := cap) (keep := keep); omega, by simp⟩
  refine CallThen.pure wS 1000 ?_
  simp +contextual (maxSteps := 2000000) (disch := ((try unfold LIM at *); omega)) only [↓bcase_true, ↓bcase_false, WA, simprocAttr, wrap_i64, dV]
  refine CallThen.newD (new32 fl ol cap S.f S.o) 6 (by simp +contextual (maxSteps := 2000000) (disch := ((try unfold LIM at *); omega)) only [↓bcase_true, ↓bcase_false, WA, simprocAttr, wrap_i64, dV, frzs_f]) 1000 fun c1 c2 hc1 hc2 => ?_
  simp +contextual (maxSteps := 2000000) (disch := ((try unfold LIM at *); omega)) only [↓bcase_true, ↓bcase_false, WA, simprocAttr, wrap_i64, dO, dH]
  refine CallThen.newD nI 6 ?_ 1000 fun c3 c4 hc3 hc4 => ?_
  · simp +contextual (maxSteps := 2000000) (disch := ((try unfold LIM at *); omega)) only [↓bcase_true, ↓bcase_false, WA, simprocAttr, wrap_i64, dV, List.length_map, own_fl, own_ol, fV_frz, oV_frz, Nat.not_lt_zero]
  simp +contextual (maxSteps := 2000000) (disch := ((try unfold LIM at *); omega)) only [↓bcase_true, ↓bcase_false, WA, simprocAttr, wrap_i64, dO, dH]
  refine CallThen.borrow (walk34 sl so q sl so q) (flat_s _) 6 ?_ 1000 ?_
  · simp +contextual (maxSteps := 2000000) (disch := ((try unfold LIM at *); omega)) only [↓bcase_true, ↓bcase_false, WA, simprocAttr, wrap_i64, dV, List.length_map, own_fl, own_ol, fV_frz, oV_frz, Nat.not_lt_zero]
  simp +contextual (maxSteps := 2000000) (disch := ((try unfold LIM at *); omega)) only [↓bcase_true, ↓bcase_false, WA, simprocAttr, wrap_i64, and_self]
  refine DrawThen.of 1000 [2, 3] (.old 0 (.old 1 (.go 2 (.go 3 (.new 4 .done))))) (panFree_pure _ _ _) (by kernel_rfl) (by kernel_rfl) (by kernel_rfl) ?_
  simp +contextual (maxSteps := 2000000) (disch := ((try unfold LIM at *); omega)) only [↓bcase_true, ↓bcase_false, WA, simprocAttr, wrap_i64]
  refine DCall.pure (walk32 fl ol cap S.f S.o) 1000 (.go 3 (.new 4 .done)) (by kernel_rfl) ?_
  simp +contextual (maxSteps := 2000000) (disch := ((try unfold LIM at *); omega)) only [↓bcase_true, ↓bcase_false, WA, simprocAttr, wrap_i64, dV]
  refine DCall.borrow (walk34 fl ol cap fl ol cap) (flat_s _) 6 ?_ 1000 (.new 4 .done) (by kernel_rfl) ?_
  · simp +contextual (maxSteps := 2000000) (disch := ((try unfold LIM at *); omega)) only [↓bcase_true, ↓bcase_false, WA, simprocAttr, wrap_i64, dV, List.length_map, own_fl, own_ol, fV_frz, oV_frz, Nat.not_lt_zero]
  simp +contextual (maxSteps := 2000000) (disch := ((try unfold LIM at *); omega)) only [↓bcase_true, ↓bcase_false, WA, simprocAttr, wrap_i64, and_self]
  refine CallThen.edit (walk51 fl ol cap 1 c1 c2 S.f S.o hc1 hc2 (by omega) (by omega)) [2, 3] (by simp) ⟨.inl ⟨nrs_map fV_nr _, rfl⟩, .inl ⟨nrs_map oV_nr _, rfl⟩, trivial⟩ rfl 1000 ?_
  have p1 : ¬ (1 + 2 * (fl.length : Int) + 3 * (ol.length : Int) < 0) := by omega
  simp +contextual (maxSteps := 2000000) (disch := ((try unfold LIM at *); omega)) only [↓bcase_true, ↓bcase_false, WA, simprocAttr, wrap_i64, WB8, dH, p1]
  refine CallThen.borrow (walk34 sl so q sl so q) (flat_s _) 6 ?_ 1000 ?_
  · simp +contextual (maxSteps := 2000000) (disch := ((try unfold LIM at *); omega)) only [↓bcase_true, ↓bcase_false, WA, simprocAttr, wrap_i64, dV, List.length_map, own_fl, own_ol, fV_frz, oV_frz, Nat.not_lt_zero]
  simp +contextual (maxSteps := 2000000) (disch := ((try unfold LIM at *); omega)) only [↓bcase_true, ↓bcase_false, WA, simprocAttr, wrap_i64, WB8, and_self]
  refine CallThen.edit (walk51 sl so q 1 c3 c4 hsl hso hc3 hc4 (by omega) (by omega)) [5, 6] (by simp) ⟨.inl ⟨nrs_map fV_nr _, rfl⟩, .inl ⟨nrs_map oV_nr _, rfl⟩, trivial⟩ rfl 1000 ?_
  have p2 : ¬ (1 + 2 * (sl.length : Int) + 3 * (so.length : Int) < 0) := by omega
  simp +contextual (maxSteps := 2000000) (disch := ((try unfold LIM at *); omega)) only [↓bcase_true, ↓bcase_false, WA, simprocAttr, wrap_i64, WB8, dH]
  refine CallThen.borrow (walk55 q 1 sl.length so.length hsl hso (by omega) (by omega)) (flat_s _) 6 ?_ 1000 ?_
  · simp +contextual (maxSteps := 2000000) (disch := ((try unfold LIM at *); omega)) only [↓bcase_true, ↓bcase_false, WA, simprocAttr, wrap_i64, dV, List.length_map, fV_frz, oV_frz, Nat.not_lt_zero, markF_len, markF_take, markO_len, markO_take]
  simp +contextual (maxSteps := 2000000) (disch := ((try unfold LIM at *); omega)) only [↓bcase_true, ↓bcase_false, WA, simprocAttr, wrap_i64, WB8, p2, bne_self_eq_false]
  refine CallThen.pure (walk32 fl ol cap S.f S.o) 1000 ?_
  simp +contextual (maxSteps := 2000000) (disch := ((try unfold LIM at *); omega)) only [↓bcase_true, ↓bcase_false, WA, simprocAttr, wrap_i64, WB8, dV]
  refine CallThen.newD nI 6 ?_ 1000 fun c5 c6 hc5 hc6 => ?_
  · simp +contextual (maxSteps := 2000000) (disch := ((try unfold LIM at *); omega)) only [↓bcase_true, ↓bcase_false, WA, simprocAttr, wrap_i64, dV, frzs_f]
  simp +contextual (maxSteps := 2000000) (disch := ((try unfold LIM at *); omega)) only [↓bcase_true, ↓bcase_false, WA, simprocAttr, wrap_i64, WB8, dO, dH]
  refine CallThen.borrow (walk34 sl so q sl so q) (flat_s _) 6 ?_ 1000 ?_
  · simp +contextual (maxSteps := 2000000) (disch := ((try unfold LIM at *); omega)) only [↓bcase_true, ↓bcase_false, WA, simprocAttr, wrap_i64, dV, List.length_map, own_fl, own_ol, fV_frz, oV_frz, Nat.not_lt_zero]
  simp +contextual (maxSteps := 2000000) (disch := ((try unfold LIM at *); omega)) only [↓bcase_true, ↓bcase_false, WA, simprocAttr, wrap_i64, WB8, and_self]
  refine CallThen.borrow (walk55 q 1 sl.length so.length hsl hso (by omega) (by omega)) (flat_s _) 6 ?_ 1000 ?_
  · simp +contextual (maxSteps := 2000000) (disch := ((try unfold LIM at *); omega)) only [↓bcase_true, ↓bcase_false, WA, simprocAttr, wrap_i64, dV, List.length_map, fV_frz, oV_frz, Nat.not_lt_zero, markF_len, markF_take, markO_len, markO_take]
  simp +contextual (maxSteps := 2000000) (disch := ((try unfold LIM at *); omega)) only [↓bcase_true, ↓bcase_false, WA, simprocAttr, wrap_i64, WB8, p2, bne_self_eq_false]
end Go.Proofs.Ytpcgnmoogjahbaa
/- part D29 -/
set_option linter.unusedVariables false
set_option linter.unusedSimpArgs false
set_option maxRecDepth 100000
namespace Go.Proofs.Ytpcgnmoogjahbaa
open Go Go.W Go.RowKit
theorem walk56 (fl : List Fl) (ol : List Opn) (cap : Int) (S : Sized fl ol 1048576) : PureV C 56 [.agg (dV fl ol cap)] (.agg (dV (seeD fl ol cap) [] (fallC fl ol cap))) := by
  cases c : diskOk fl ol cap with
  | true =>
    have e1 : seeD fl ol cap = seeS fl ol ol.length := by simp [seeD, c]
    have e2 : fallC fl ol cap = cap := by simp [fallC, c]
    rw [e1, e2]
    refine PureV.weak ?_ (wk_dV _ _) (fun _ => rfl)
    refine pure_of_run Try.func56 rfl (by kernel_rfl) (by kernel_rfl) (by simp) (fun _ => rfl) (fun _ => rfl) 6 1000 ?_
    simp +contextual (maxSteps := 2000000) (disch := ((try unfold LIM at *); omega)) only [↓bcase_true, ↓bcase_false, WA, simprocAttr, wrap_i64, dV]
    refine CallThen.pure (walk31 fl ol cap S.f S.o S.b S.s) 1000 ?_
    simp +contextual (maxSteps := 2000000) (disch := ((try unfold LIM at *); omega)) only [↓bcase_true, ↓bcase_false, WA, simprocAttr, wrap_i64, dV, c]
    refine DrawThen.of 1000 [1] (.old 0 (.old 2 (.old 3 (.go 1 (.new 4 (.go 5 .done)))))) (panFree_pure _ _ _) (by kernel_rfl) (by kernel_rfl) (by kernel_rfl) ?_
    simp +contextual (maxSteps := 2000000) (disch := ((try unfold LIM at *); omega)) only [↓bcase_true, ↓bcase_false, WA, simprocAttr, wrap_i64]
    refine DCall.pure (walk86 fl ol cap (good_of c) S.s) 1000 (.new 4 (.go 5 .done)) (by kernel_rfl) ?_
    simp +contextual (maxSteps := 2000000) (disch := ((try unfold LIM at *); omega)) only [↓bcase_true, ↓bcase_false, WA, simprocAttr, wrap_i64]
  | false =>
    have e1 : seeD fl ol cap = [] := by simp [seeD, c]
    have e2 : fallC fl ol cap = 0 := by simp [fallC, c]
    rw [e1, e2]
    refine PureV.weak ?_ wk_dV0 (fun _ => rfl)
    refine pure_of_run Try.func56 rfl (by kernel_rfl) (by kernel_rfl) (by simp) (fun _ => rfl) (fun _ => rfl) 6 1000 ?_
    simp +contextual (maxSteps := 2000000) (disch := ((try unfold LIM at *); omega)) only [↓bcase_true, ↓bcase_false, WA, simprocAttr, wrap_i64, dV]
    refine CallThen.pure (walk31 fl ol cap S.f S.o S.b S.s) 1000 ?_
    simp +contextual (maxSteps := 2000000) (disch := ((try unfold LIM at *); omega)) only [↓bcase_true, ↓bcase_false, WA, simprocAttr, wrap_i64, dV, c]
theorem new48 (fl : List Fl) (ol : List Opn) (cap : Int) (S : Sized fl ol 1048576) : NewD 48 [.agg (dV fl ol cap)] (seeD fl ol cap) [] (fallC fl ol cap) := by
  refine calls_of_run Try.func48 rfl (by kernel_rfl) (by kernel_rfl) (by simp) 1000 ?_
  simp +contextual (maxSteps := 2000000) (disch := ((try unfold LIM at *); omega)) only [↓bcase_true, ↓bcase_false, WA, simprocAttr, wrap_i64, dV]
  refine CallThen.pure (walk33 fl ol cap S.f S.o S.b S.s) 1000 ?_
  cases c : diskOk fl ol cap with
  | true =>
    have e1 : seeD fl ol cap = seeS fl ol ol.length := by simp [seeD, c]
    have e2 : fallC fl ol cap = cap := by simp [fallC, c]
    rw [e1, e2]
    have ho := S.o
    have n96 := new96 fl ol cap ol.length (good_of c) S.s
    rw [Int.toNat_natCast] at n96
    simp +contextual (maxSteps := 2000000) (disch := ((try unfold LIM at *); omega)) only [↓bcase_true, ↓bcase_false, WA, simprocAttr, wrap_i64, dV, List.length_map]
    intro _
    refine CallThen.newD n96 6 (by simp +contextual (maxSteps := 2000000) (disch := ((try unfold LIM at *); omega)) only [↓bcase_true, ↓bcase_false, WA, simprocAttr, wrap_i64, dV, frzs_f]) 1000 fun c1 c2 hc1 hc2 => ?_
    simp +contextual (maxSteps := 2000000) (disch := ((try unfold LIM at *); omega)) only [↓bcase_true, ↓bcase_false, WA, simprocAttr, wrap_i64, dO, dH]
    refine Up.gc (.agg (dO (seeS fl ol ol.length) [] cap 0 c1 1 c2)) [2, 3] (dH (seeS fl ol ol.length) [] c1 c2) (by simp) ?_ ?_ ⟨c1, c2, hc1, hc2, rfl, rfl⟩
    · exact ⟨.inl ⟨nrs_map fV_nr _, rfl⟩, .inl ⟨rfl, rfl⟩, trivial⟩
    · rfl
  | false =>
    have e1 : seeD fl ol cap = [] := by simp [seeD, c]
    have e2 : fallC fl ol cap = 0 := by simp [fallC, c]
    rw [e1, e2]
    simp +contextual (maxSteps := 2000000) (disch := ((try unfold LIM at *); omega)) only [↓bcase_true, ↓bcase_false, WA, simprocAttr, wrap_i64, dV]
    refine Up.arr (Arr.nilV 2) (.inl (.inr ⟨_, [.sl 2 0 0 0, .z, .s (.int .i64 0)], rfl, rfl, .inr ⟨rfl, rfl⟩, .inl rfl, .inl rfl, trivial⟩)) ?_
    refine Up.arr (Arr.nilV 3) (.inl (.inr ⟨_, [.sl 2 0 0 0, .sl 3 0 0 0, .s (.int .i64 0)], rfl, rfl, .inl rfl, .inr ⟨rfl, rfl⟩, .inl rfl, trivial⟩)) ?_
    refine Up.gc (.agg (dO [] [] 0 0 0 1 0)) [2, 3] (dH [] [] 0 0) (by simp) ?_ ?_ ⟨0, 0, Nat.le_refl _, Nat.le_refl _, rfl, rfl⟩
    · exact ⟨.inl ⟨rfl, rfl⟩, .inl ⟨rfl, rfl⟩, trivial⟩
    · rfl
theorem walk13 (fl : List Fl) (ol : List Opn) (cap : Int)  : PureV C 13 [.agg (dV fl ol cap)] (.s (.bool true)) := by
  refine pure_of_run Try.func13 rfl (by kernel_rfl) (by kernel_rfl) (by simp) (fun _ => rfl) (fun _ => rfl) 6 1000 ?_
  simp +contextual (maxSteps := 2000000) (disch := ((try unfold LIM at *); omega)) only [↓bcase_true, ↓bcase_false, WA, simprocAttr, wrap_i64, dV]
  refine CallThen.pure (walk30 fl ol cap 1048576 (by omega) (by omega)) 1000 ?_
  by_cases c : szD fl ol 1048576 < 0
  · simp +contextual (maxSteps := 2000000) (disch := ((try unfold LIM at *); omega)) only [↓bcase_true, ↓bcase_false, WA, simprocAttr, wrap_i64, c]
  have S := sized_of (fl := fl) (ol := ol) (left := 1048576) (by omega) (by omega)
  have hf := S.f
  have ho := S.o
  simp +contextual (maxSteps := 2000000) (disch := ((try unfold LIM at *); omega)) only [↓bcase_true, ↓bcase_false, WA, simprocAttr, wrap_i64, c]
  refine CallThen.pure (walk32 fl ol cap S.f S.o) 1000 ?_
  simp +contextual (maxSteps := 2000000) (disch := ((try unfold LIM at *); omega)) only [↓bcase_true, ↓bcase_false, WA, simprocAttr, wrap_i64]
  obtain ⟨sl, so, q, wS, nI, hsl, hso⟩ : ∃ sl so q, PureV C 56 [.agg (dV fl ol cap)] (.agg (dV sl so q)) ∧ NewD 48 [.agg (dV fl ol cap)] sl so q ∧ sl.length ≤ 1048576 ∧ so.length ≤ 1048576 := ⟨_, _, _, (walk56 fl ol cap S), (new48 fl ol cap S), by have := see_len (fl := fl) (ol := ol) (cap := cap); omega, by simp⟩
  refine CallThen.pure wS 1000 ?_
  simp +contextual (maxSteps := 2000000) (disch := ((try unfold LIM at *); omega)) only [↓bcase_true, ↓bcase_false, WA, simprocAttr, wrap_i64, dV]
  refine CallThen.newD (new32 fl ol cap S.f S.o) 6 (by simp +contextual (maxSteps := 2000000) (disch := ((try unfold LIM at *); omega)) only [↓bcase_true, ↓bcase_false, WA, simprocAttr, wrap_i64, dV, frzs_f]) 1000 fun c1 c2 hc1 hc2 => ?_
  simp +contextual (maxSteps := 2000000) (disch := ((try unfold LIM at *); omega)) only [↓bcase_true, ↓bcase_false, WA, simprocAttr, wrap_i64, dO, dH]
  refine CallThen.newD nI 6 ?_ 1000 fun c3 c4 hc3 hc4 => ?_
  · simp +contextual (maxSteps := 2000000) (disch := ((try unfold LIM at *); omega)) only [↓bcase_true, ↓bcase_false, WA, simprocAttr, wrap_i64, dV, List.length_map, own_fl, own_ol, fV_frz, oV_frz, Nat.not_lt_zero]
  simp +contextual (maxSteps := 2000000) (disch := ((try unfold LIM at *); omega)) only [↓bcase_true, ↓bcase_false, WA, simprocAttr, wrap_i64, dO, dH]
  refine CallThen.borrow (walk34 sl so q sl so q) (flat_s _) 6 ?_ 1000 ?_
  · simp +contextual (maxSteps := 2000000) (disch := ((try unfold LIM at *); omega)) only [↓bcase_true, ↓bcase_false, WA, simprocAttr, wrap_i64, dV, List.length_map, own_fl, own_ol, fV_frz, oV_frz, Nat.not_lt_zero]
  simp +contextual (maxSteps := 2000000) (disch := ((try unfold LIM at *); omega)) only [↓bcase_true, ↓bcase_false, WA, simprocAttr, wrap_i64, and_self]
  refine DrawThen.of 1000 [2, 3] (.old 0 (.old 1 (.go 2 (.go 3 (.new 4 .done))))) (panFree_pure _ _ _) (by kernel_rfl) (by kernel_rfl) (by kernel_rfl) ?_
  simp +contextual (maxSteps := 2000000) (disch := ((try unfold LIM at *); omega)) only [↓bcase_true, ↓bcase_false, WA, simprocAttr, wrap_i64]
  refine DCall.pure (walk32 fl ol cap S.f S.o) 1000 (.go 3 (.new 4 .done)) (by kernel_rfl) ?_
  simp +contextual (maxSteps := 2000000) (disch := ((try unfold LIM at *); omega)) only [↓bcase_true, ↓bcase_false, WA, simprocAttr, wrap_i64, dV]
  refine DCall.borrow (walk34 fl ol cap fl ol cap) (flat_s _) 6 ?_ 1000 (.new 4 .done) (by kernel_rfl) ?_
  · simp +contextual (maxSteps := 2000000) (disch := ((try unfold LIM at *); omega)) only [↓bcase_true, ↓bcase_false, WA, simprocAttr, wrap_i64, dV, List.length_map, own_fl, own_ol, fV_frz, oV_frz, Nat.not_lt_zero]
  simp +contextual (maxSteps := 2000000) (disch := ((try unfold LIM at *); omega)) only [↓bcase_true, ↓bcase_false, WA, simprocAttr, wrap_i64, and_self]
  refine CallThen.edit (walk51 fl ol cap 1 c1 c2 S.f S.o hc1 hc2 (by omega) (by omega)) [2, 3] (by simp) ⟨.inl ⟨nrs_map fV_nr _, rfl⟩, .inl ⟨nrs_map oV_nr _, rfl⟩, trivial⟩ rfl 1000 ?_
  have p1 : ¬ (1 + 2 * (fl.length : Int) + 3 * (ol.length : Int) < 0) := by omega
  simp +contextual (maxSteps := 2000000) (disch := ((try unfold LIM at *); omega)) only [↓bcase_true, ↓bcase_false, WA, simprocAttr, wrap_i64, WB8, dH, p1]
  refine CallThen.borrow (walk34 sl so q sl so q) (flat_s _) 6 ?_ 1000 ?_
  · simp +contextual (maxSteps := 2000000) (disch := ((try unfold LIM at *); omega)) only [↓bcase_true, ↓bcase_false, WA, simprocAttr, wrap_i64, dV, List.length_map, own_fl, own_ol, fV_frz, oV_frz, Nat.not_lt_zero]
  simp +contextual (maxSteps := 2000000) (disch := ((try unfold LIM at *); omega)) only [↓bcase_true, ↓bcase_false, WA, simprocAttr, wrap_i64, WB8, and_self]
  refine CallThen.edit (walk51 sl so q 1 c3 c4 hsl hso hc3 hc4 (by omega) (by omega)) [5, 6] (by simp) ⟨.inl ⟨nrs_map fV_nr _, rfl⟩, .inl ⟨nrs_map oV_nr _, rfl⟩, trivial⟩ rfl 1000 ?_
  have p2 : ¬ (1 + 2 * (sl.length : Int) + 3 * (so.length : Int) < 0) := by omega
  simp +contextual (maxSteps := 2000000) (disch := ((try unfold LIM at *); omega)) only [↓bcase_true, ↓bcase_false, WA, simprocAttr, wrap_i64, WB8, dH]
  refine CallThen.borrow (walk55 q 1 sl.length so.length hsl hso (by omega) (by omega)) (flat_s _) 6 ?_ 1000 ?_
  · simp +contextual (maxSteps := 2000000) (disch := ((try unfold LIM at *); omega)) only [↓bcase_true, ↓bcase_false, WA, simprocAttr, wrap_i64, dV, List.length_map, fV_frz, oV_frz, Nat.not_lt_zero, markF_len, markF_take, markO_len, markO_take]
  simp +contextual (maxSteps := 2000000) (disch := ((try unfold LIM at *); omega)) only [↓bcase_true, ↓bcase_false, WA, simprocAttr, wrap_i64, WB8, p2, bne_self_eq_false]
  refine CallThen.pure (walk32 fl ol cap S.f S.o) 1000 ?_
  simp +contextual (maxSteps := 2000000) (disch := ((try unfold LIM at *); omega)) only [↓bcase_true, ↓bcase_false, WA, simprocAttr, wrap_i64, WB8, dV]
  refine CallThen.newD nI 6 ?_ 1000 fun c5 c6 hc5 hc6 => ?_
  · simp +contextual (maxSteps := 2000000) (disch := ((try unfold LIM at *); omega)) only [↓bcase_true, ↓bcase_false, WA, simprocAttr, wrap_i64, dV, frzs_f]
  simp +contextual (maxSteps := 2000000) (disch := ((try unfold LIM at *); omega)) only [↓bcase_true, ↓bcase_false, WA, simprocAttr, wrap_i64, WB8, dO, dH]
  refine CallThen.borrow (walk34 sl so q sl so q) (flat_s _) 6 ?_ 1000 ?_
  · simp +contextual (maxSteps := 2000000) (disch := ((try unfold LIM at *); omega)) only [↓bcase_true, ↓bcase_false, WA, simprocAttr, wrap_i64, dV, List.length_map, own_fl, own_ol, fV_frz, oV_frz, Nat.not_lt_zero]
  simp +contextual (maxSteps := 2000000) (disch := ((try unfold LIM at *); omega)) only [↓bcase_true, ↓bcase_false, WA, simprocAttr, wrap_i64, WB8, and_self]
  refine CallThen.borrow (walk55 q 1 sl.length so.length hsl hso (by omega) (by omega)) (flat_s _) 6 ?_ 1000 ?_
  · simp +contextual (maxSteps := 2000000) (disch := ((try unfold LIM at *); omega)) only [↓bcase_true, ↓bcase_false, WA, simprocAttr, wrap_i64, dV, List.length_map, fV_frz, oV_frz, Nat.not_lt_zero, markF_len, markF_take, markO_len, markO_take]
  simp +contextual (maxSteps := 2000000) (disch := ((try unfold LIM at *); omega)) only [↓bcase_true, ↓bcase_false, WA, simprocAttr, wrap_i64, WB8, p2, bne_self_eq_false]
end Go.Proofs.Ytpcgnmoogjahbaa
/- part D30 -/
set_option linter.unusedVariables false
set_option linter.unusedSimpArgs false
set_option maxRecDepth 100000
namespace Go.Proofs.Ytpcgnmoogjahbaa
open Go Go.W Go.RowKit
theorem new117 (l : List Opn) (hl : l.length ≤ 1048576) : NewV C 117 [.f 3 (l.map oV)] 3 (l.map oV) := by
  refine calls_of_run Try.func117 rfl (by kernel_rfl) (by kernel_rfl) (by simp) 1000 ?_
  have q1 : l.length * 40 ≤ 140737488355328 ∧ l.length ≤ LIM := by unfold LIM; omega
  simp +contextual (maxSteps := 2000000) (disch := ((try unfold LIM at *); omega)) only [↓bcase_true, ↓bcase_false, WA, simprocAttr, wrap_i64, leafs_map oV_ok, List.length_map, q1, takeTo, List.take_length, take_map_len]
  intro r hr
  cases r with
  | true =>
    simp +contextual (maxSteps := 2000000) (disch := ((try unfold LIM at *); omega)) only [↓bcase_true, ↓bcase_false, WA, simprocAttr, wrap_i64]
    have e : l = [] := by
      cases l with
      | nil => rfl
      | cons a b => exact absurd (hr (by simp)) (by simp)
    subst e
    exact Up.nil 3 ⟨0, by simp, rfl, rfl⟩
  | false =>
    simp +contextual (maxSteps := 2000000) (disch := ((try unfold LIM at *); omega)) only [↓bcase_true, ↓bcase_false, WA, simprocAttr, wrap_i64, leafs_map oV_ok, List.length_map, q1, takeTo, List.take_length, take_map_len]
    intro cap' hc _
    exact Up.fresh (b := 1) rfl (nrs_map oV_nr _) ⟨cap', hc, rfl, rfl⟩
theorem new83 (fl : List Fl) (ol : List Opn) (cap : Int) (hf : fl.length ≤ 1048576) (ho : ol.length ≤ 1048576) : NewD 83 [.agg (dV fl ol cap)] fl ol cap := by
  refine calls_of_run Try.func83 rfl (by kernel_rfl) (by kernel_rfl) (by simp) 1000 ?_
  simp +contextual (maxSteps := 2000000) (disch := ((try unfold LIM at *); omega)) only [↓bcase_true, ↓bcase_false, WA, simprocAttr, wrap_i64, dV]
  refine DrawThen.of 1000 [1] (.old 0 (.old 1 (.old 3 (.old 4 (.old 6 (.old 7 (.go 2 (.go 5 (.new 8 (.go 9 .done)))))))))) (panFree_body _ _) (by kernel_rfl) (by kernel_rfl) (by kernel_rfl) ?_
  simp +contextual (maxSteps := 2000000) (disch := ((try unfold LIM at *); omega)) only [↓bcase_true, ↓bcase_false, WA, simprocAttr, wrap_i64, dV]
  refine DCall.new (walk76 fl hf) (nrs_map fV_nr _) (fun _ => rfl) 1000 (.go 5 (.new 8 (.go 9 .done))) (by kernel_rfl) fun c1 hc1 => ?_
  rw [List.length_map] at hc1
  simp +contextual (maxSteps := 2000000) (disch := ((try unfold LIM at *); omega)) only [↓bcase_true, ↓bcase_false, WA, simprocAttr, wrap_i64, List.length_map]
  refine DCall.new (new117 ol ho) (nrs_map oV_nr _) (fun _ => rfl) 1000 (.new 8 (.go 9 .done)) (by kernel_rfl) fun c2 hc2 => ?_
  rw [List.length_map] at hc2
  simp +contextual (maxSteps := 2000000) (disch := ((try unfold LIM at *); omega)) only [↓bcase_true, ↓bcase_false, WA, simprocAttr, wrap_i64, List.length_map]
  refine Up.gc (.agg (dO fl ol cap 0 c1 1 c2)) [2, 3] (dH fl ol c1 c2) (by simp) ?_ ?_ ⟨c1, c2, hc1, hc2, rfl, rfl⟩
  · exact ⟨.inl ⟨nrs_map fV_nr _, rfl⟩, .inl ⟨nrs_map oV_nr _, rfl⟩, trivial⟩
  · rfl
theorem walk85 (fl : List Fl) (ol : List Opn) (cap : Int) (hf : fl.length ≤ 1048576) (ho : ol.length ≤ 1048576) : PureV C 85 [.agg (dV fl ol cap)] (.agg (dV fl ol cap)) := by
  refine pure_of_run Try.func85 rfl (by kernel_rfl) (by kernel_rfl) (by simp) (fun _ => rfl) (fun _ => rfl) 6 1000 ?_
  simp +contextual (maxSteps := 2000000) (disch := ((try unfold LIM at *); omega)) only [↓bcase_true, ↓bcase_false, WA, simprocAttr, wrap_i64, dV]
  refine DrawThen.of 1000 [1] (.old 1 (.old 2 (.old 5 (.old 6 (.old 8 (.old 9 (.or 0 (.or 3 (.go 4 (.go 7 (.new 10 (.go 11 .done)))) (.go 4 (.go 3 (.go 7 (.new 10 (.go 11 .done)))))) (.go 4 (.go 0 (.go 3 (.go 7 (.new 10 (.go 11 .done))))))))))))) (panFree_pure _ _ _) (by kernel_rfl) (by kernel_rfl) (by kernel_rfl) ?_
  have q1 : fl.length * 32 ≤ 140737488355328 ∧ fl.length ≤ LIM := by unfold LIM; omega
  have q2 : ol.length * 40 ≤ 140737488355328 ∧ ol.length ≤ LIM := by unfold LIM; omega
  simp +contextual (maxSteps := 2000000) (disch := ((try unfold LIM at *); omega)) only [↓bcase_true, ↓bcase_false, WA, simprocAttr, wrap_i64, dV, leafs_map fV_ok, leafs_map oV_ok, List.length_map, q1, q2, takeTo, List.take_length, take_map_len, fV_frz, oV_frz, Nat.not_lt_zero]
end Go.Proofs.Ytpcgnmoogjahbaa
/- part D31 -/
set_option linter.unusedVariables false
set_option linter.unusedSimpArgs false
set_option maxRecDepth 100000
namespace Go.Proofs.Ytpcgnmoogjahbaa
open Go Go.W Go.RowKit
def goB (fl : List Fl) (ol : List Opn) (cap : Int) (o : Opn) : Bool := decide (1 ≤ o.1 ∧ o.1 ≤ 4) && (decide (ol.length ≠ 2000) && decide (fits (doS (seeS fl ol ol.length) o) cap))
set_option maxHeartbeats 1000000 in
theorem walk84 (fl : List Fl) (ol : List Opn) (cap : Int) (o : Opn) (c1 c2 : Nat) (hc1 : fl.length ≤ c1) (hc2 : ol.length ≤ c2) (g : Good fl ol cap) (hs : ∀ o ∈ ol, oneO o ≤ 1048576) (ho : oneO o ≤ 1048576) :
    CallsV C 84 [.ptr 0 0 0, .agg (oV o)] [⟨[dO fl ol cap 1 c1 2 c2], 3, 1, true⟩, ⟨fl.map fV, 2, c1, true⟩, ⟨ol.map oV, 3, c2, true⟩] fun res h' =>
      (goB fl ol cap o = true ∧ ∃ c3, ol.length + 1 ≤ c3 ∧ res = .ret (.s (.bool true)) ∧ h' = [⟨[dO fl (ol ++ [o]) cap 1 c1 3 c3], 3, 1, true⟩, ⟨fl.map fV, 2, c1, true⟩, Blk.dead, ⟨(ol ++ [o]).map oV, 3, c3, true⟩]) ∨
      (goB fl ol cap o = false ∧ res = .ret (.s (.bool false)) ∧ h' = [⟨[dO fl ol cap 1 c1 2 c2], 3, 1, true⟩, ⟨fl.map fV, 2, c1, true⟩, ⟨ol.map oV, 3, c2, true⟩]) := by
  refine calls_of_run Try.func84 rfl (by kernel_rfl) (by kernel_rfl) (by simp) 1000 ?_
  have hol := g.late
  have bad : goB fl ol cap o = false → ∀ (h : Go.W.H), h[0]? = some ⟨[dO fl ol cap 1 c1 2 c2], 3, 1, true⟩ → h[1]? = some ⟨fl.map fV, 2, c1, true⟩ → h[2]? = some ⟨ol.map oV, 3, c2, true⟩ →
      Up 3 (fun res h' => (goB fl ol cap o = true ∧ ∃ c3, ol.length + 1 ≤ c3 ∧ res = .ret (.s (.bool true)) ∧ h' = [⟨[dO fl (ol ++ [o]) cap 1 c1 3 c3], 3, 1, true⟩, ⟨fl.map fV, 2, c1, true⟩, Blk.dead, ⟨(ol ++ [o]).map oV, 3, c3, true⟩]) ∨
        (goB fl ol cap o = false ∧ res = .ret (.s (.bool false)) ∧ h' = [⟨[dO fl ol cap 1 c1 2 c2], 3, 1, true⟩, ⟨fl.map fV, 2, c1, true⟩, ⟨ol.map oV, 3, c2, true⟩])) (.ret (.s (.bool false))) h := by
    intro hb h e0 e1 e2
    refine Up.keep [⟨[dO fl ol cap 1 c1 2 c2], 3, 1, true⟩, ⟨fl.map fV, 2, c1, true⟩, ⟨ol.map oV, 3, c2, true⟩] (fun _ => rfl) rfl ?_ (.inr ⟨hb, rfl, rfl⟩)
    show gcL _ _ [0, 1, 2] _
    exact ⟨.inr e0, .inl ⟨nrs_map fV_nr _, e1⟩, .inl ⟨nrs_map oV_nr _, e2⟩, trivial⟩
  simp +contextual (maxSteps := 2000000) (disch := ((try unfold LIM at *); omega)) only [↓bcase_true, ↓bcase_false, WA, simprocAttr, wrap_i64, oV, dO]
  refine DrawThen.of 1000 [1, 2] (.old 0 (.go 1 (.new 2 (.new 3 (.old 4 (.old 5 (.old 6 (.old 7 (.old 8 (.old 9 (.new 10 (.new 11 (.old 12 (.old 13 (.old 14 (.old 16 (.old 18 (.old 19 (.old 20 (.old 21 (.go 15 (.go 17 (.go 22 (.new 23 (.new 24 .done))))))))))))))))))))))))) (panFree_body _ _) (by kernel_rfl) (by kernel_rfl) (by kernel_rfl) ?_
  simp +contextual (maxSteps := 2000000) (disch := ((try unfold LIM at *); omega)) only [↓bcase_true, ↓bcase_false, WA, simprocAttr, wrap_i64, oV]
  refine DCall.pure (walk77 o) 1000 (.new 2 (.new 3 (.old 4 (.old 5 (.old 6 (.old 7 (.old 8 (.old 9 (.new 10 (.new 11 (.old 12 (.old 13 (.old 14 (.old 16 (.old 18 (.old 19 (.old 20 (.old 21 (.go 15 (.go 17 (.go 22 (.new 23 (.new 24 .done))))))))))))))))))))))) (by kernel_rfl) ?_
  by_cases e1 : 1 ≤ o.1 ∧ o.1 ≤ 4
  rotate_left
  · have hb : goB fl ol cap o = false := by simp [goB, e1]
    simp +contextual (maxSteps := 2000000) (disch := ((try unfold LIM at *); omega)) only [↓bcase_true, ↓bcase_false, WA, simprocAttr, wrap_i64, oV, e1]
    exact bad hb _ rfl rfl rfl
  by_cases e2 : ol.length = 2000
  · have hb : goB fl ol cap o = false := by simp [goB, e2]
    have e2' : (ol.length : Int) = 2000 := by omega
    simp +contextual (maxSteps := 2000000) (disch := ((try unfold LIM at *); omega)) only [↓bcase_true, ↓bcase_false, WA, simprocAttr, wrap_i64, oV, e1, e2', List.length_map]
    exact bad hb _ rfl rfl rfl
  have e2' : ¬ (ol.length : Int) = 2000 := by omega
  generalize hl : seeS fl ol ol.length = l at *
  have pa : ascS l = true := hl ▸ g.asc _
  have sz : l.length ≤ 20 ∧ sizeF l ≤ 1000000 := hl ▸ g.size _
  have w87 := walk87 fl ol cap g hs
  rw [hl] at w87
  simp +contextual (maxSteps := 2000000) (disch := ((try unfold LIM at *); omega)) only [↓bcase_true, ↓bcase_false, WA, simprocAttr, wrap_i64, oV, e1, e2', List.length_map]
  refine DCall.newB w87 (plains_map fV_plain _) 6 ?_ 1000 (.go 17 (.go 22 (.new 23 (.new 24 .done)))) (by kernel_rfl) fun cp hc => ?_
  · simp +contextual (maxSteps := 2000000) (disch := ((try unfold LIM at *); omega)) only [↓bcase_true, ↓bcase_false, WA, simprocAttr, wrap_i64, dV, List.length_map, own_fl, own_ol, fV_frz, oV_frz, Nat.not_lt_zero]
  rw [List.length_map] at hc
  have b2 := sizeF_get l o.2.1
  have b4 := get_cut l o.2.1 pa
  rw [b4] at b2
  simp only [oneO] at ho
  have ad := apply_do l o pa e1.1 e1.2
  have wa : ascS (withoutS l o.2.1 (cutN l o.2.1)) = true := by rw [without_drop _ _ pa]; exact asc_drop pa _
  have w78 := walk78 l o _ _ (by omega) (cut_cutN pa o.2.1) (cut_cutN wa o.2.2) (by simp only at b2; omega)
  rw [ad] at w78
  have b1 := do_bound l o
  simp +contextual (maxSteps := 2000000) (disch := ((try unfold LIM at *); omega)) only [↓bcase_true, ↓bcase_false, WA, simprocAttr, wrap_i64, oV, List.length_map]
  rw [show l.length = (l.map fV).length by simp]
  refine DCall.own w78 (by rfl) (by simpa using hc) 1000 (.go 22 (.new 23 (.new 24 .done))) (by kernel_rfl) fun cp' hc' => ?_
  rw [List.length_map] at hc'
  simp +contextual (maxSteps := 2000000) (disch := ((try unfold LIM at *); omega)) only [↓bcase_true, ↓bcase_false, WA, simprocAttr, wrap_i64, List.length_map]
  refine DCall.borrow (walk75 (doS l o) cap (by omega)) (flat_s _) 6 ?_ 1000 (.new 23 (.new 24 .done)) (by kernel_rfl) ?_
  · simp +contextual (maxSteps := 2000000) (disch := ((try unfold LIM at *); omega)) only [↓bcase_true, ↓bcase_false, WA, simprocAttr, wrap_i64, List.length_map, fV_frz, Nat.not_lt_zero, own_fl]
  by_cases e3 : fits (doS l o) cap
  rotate_left
  · have hb : goB fl ol cap o = false := by simp [goB, hl, e3]
    simp +contextual (maxSteps := 2000000) (disch := ((try unfold LIM at *); omega)) only [↓bcase_true, ↓bcase_false, WA, simprocAttr, wrap_i64, e3]
    exact bad hb _ rfl rfl rfl
  have hb : goB fl ol cap o = true := by simp [goB, hl, e1, e2, e3]
  have q1 : (ol.length + 1) * 40 ≤ 140737488355328 := by omega
  have q2 : ol.length + 1 ≤ LIM := by unfold LIM; omega
  simp +contextual (maxSteps := 2000000) (disch := ((try unfold LIM at *); omega)) only [↓bcase_true, ↓bcase_false, WA, simprocAttr, wrap_i64, e3]
  refine DrawThen.of 1000 [0, 2] (.old 0 (.old 1 (.old 2 (.old 3 (.old 5 (.or 4 (.go 6 (.go 7 (.old 8 (.old 9 (.go 10 .done))))) (.go 6 (.go 4 (.go 7 (.old 8 (.old 9 (.go 10 .done)))))))))))) (panFree_body _ _) (by kernel_rfl) (by kernel_rfl) (by kernel_rfl) ?_
  simp +contextual (maxSteps := 2000000) (disch := ((try unfold LIM at *); omega)) only [↓bcase_true, ↓bcase_false, WA, simprocAttr, wrap_i64, leafs_map oV_ok, List.length_map, q1, q2, takeTo, List.take_length, take_map_len]
  intro cap' hcap _
  have hl1 : (ol ++ [o]).length = ol.length + 1 := by simp
  have hm : (ol ++ [o]).map oV = ol.map oV ++ [oV o] := by simp
  refine Up.gcN (.s (.bool true)) [0, 1, 2, 7] [⟨[dO fl (ol ++ [o]) cap 1 c1 3 cap'], 3, 1, true⟩, ⟨fl.map fV, 2, c1, true⟩, Blk.dead, ⟨(ol ++ [o]).map oV, 3, cap', true⟩] (by simp) rfl ?_ rfl (.inl ⟨hb, cap', hcap, rfl, rfl⟩)
  refine ⟨.inr ?_, .inl ⟨nrs_map fV_nr _, rfl⟩, .inl ⟨rfl, rfl⟩, .inl ⟨nrs_map oV_nr _, by rw [hm]; rfl⟩, trivial⟩
  simp only [dO, hl1]; rfl
def doOl (fl : List Fl) (ol : List Opn) (cap : Int) (o : Opn) : List Opn := if goB fl ol cap o = true then ol ++ [o] else ol
theorem new36 (fl : List Fl) (ol : List Opn) (cap : Int) (o : Opn) (S : Sized fl ol 1048576) (ho : oneO o ≤ 1048576) (g : Good fl ol cap) (hd : diskOk fl ol cap = true) :
    CallsV C 36 [.agg (dV fl ol cap), .agg (oV o)] [] fun res h' => ∃ c1 c2, fl.length ≤ c1 ∧ (doOl fl ol cap o).length ≤ c2 ∧ res = .ret (.tup [.agg (dO fl (doOl fl ol cap o) cap 0 c1 1 c2), .s (.bool (goB fl ol cap o))]) ∧ h' = dH fl (doOl fl ol cap o) c1 c2 := by
  refine calls_of_run Try.func36 rfl (by kernel_rfl) (by kernel_rfl) (by simp) 1000 ?_
  simp +contextual (maxSteps := 2000000) (disch := ((try unfold LIM at *); omega)) only [↓bcase_true, ↓bcase_false, WA, simprocAttr, wrap_i64, dV, oV]
  refine CallThen.pure (walk33 fl ol cap S.f S.o S.b S.s) 1000 ?_
  simp +contextual (maxSteps := 2000000) (disch := ((try unfold LIM at *); omega)) only [↓bcase_true, ↓bcase_false, WA, simprocAttr, wrap_i64, dV, hd]
  refine CallThen.newD (new83 fl ol cap S.f S.o) 6 (by simp +contextual (maxSteps := 2000000) (disch := ((try unfold LIM at *); omega)) only [↓bcase_true, ↓bcase_false, WA, simprocAttr, wrap_i64, dV, frzs_f]) 1000 fun c1 c2 hc1 hc2 => ?_
  simp +contextual (maxSteps := 2000000) (disch := ((try unfold LIM at *); omega)) only [↓bcase_true, ↓bcase_false, WA, simprocAttr, wrap_i64, dO, dH]
  refine CallThen.of 1000 (CallsV.frame (walk84 fl ol cap o c1 c2 hc1 hc2 g S.s ho) [5, 3, 4] _ rfl (by simp) ?_) ?_
  · exact (gcL_spec (r := emb [5, 3, 4] 6) (l := [5, 3, 4]) (h' := [⟨[dO fl ol cap 1 c1 2 c2], 3, 1, true⟩, ⟨fl.map fV, 2, c1, true⟩, ⟨ol.map oV, 3, c2, true⟩]) ⟨.inr rfl, .inl ⟨nrs_map fV_nr _, rfl⟩, .inl ⟨nrs_map oV_nr _, rfl⟩, trivial⟩).2
  rintro r' h' ⟨r, h1, (⟨hb, c3, hc3, rfl, rfl⟩ | ⟨hb, rfl, rfl⟩), rfl, rfl⟩
  · have e : List.map (rnB (emb [5, 3, 4] 6)) [⟨[dO fl (ol ++ [o]) cap 1 c1 3 c3], 3, 1, true⟩, ⟨fl.map fV, 2, c1, true⟩, Blk.dead, ⟨(ol ++ [o]).map oV, 3, c3, true⟩] = [⟨[dO fl (ol ++ [o]) cap 3 c1 6 c3], 3, 1, true⟩, ⟨fl.map fV, 2, c1, true⟩, Blk.dead, ⟨(ol ++ [o]).map oV, 3, c3, true⟩] := by
      show [rnB _ _, rnB _ _, rnB _ _, rnB _ _] = _
      rw [nrs_rn _ (B := ⟨fl.map fV, 2, c1, true⟩) (nrs_map fV_nr _), nrs_rn _ (B := ⟨(ol ++ [o]).map oV, 3, c3, true⟩) (nrs_map oV_nr _)]; rfl
    have hl1 : (ol ++ [o]).length ≤ 1048576 := by have := g.late; simp; omega
    have hl2 : (ol ++ [o]).length ≤ c3 := by simpa using hc3
    have ed : doOl fl ol cap o = ol ++ [o] := by simp [doOl, hb]
    rw [ed]
    simp only [List.length_cons, List.length_nil, Nat.zero_add, Nat.reduceAdd] at *
    rw [e]
    generalize ol ++ [o] = o2 at *
    simp +contextual (maxSteps := 2000000) (disch := ((try unfold LIM at *); omega)) only [↓bcase_true, ↓bcase_false, WA, simprocAttr, wrap_i64, WB8, dO, rnRes, rnV, rnQ, rnC, rnP]
    refine CallThen.newD (new83 fl o2 cap S.f hl1) 6 ?_ 1000 fun d1 d2 hd1 hd2 => ?_
    · simp +contextual (maxSteps := 2000000) (disch := ((try unfold LIM at *); omega)) only [↓bcase_true, ↓bcase_false, WA, simprocAttr, wrap_i64, dV, List.length_map, own_fl, own_ol, fV_frz, oV_frz, Nat.not_lt_zero]
    simp +contextual (maxSteps := 2000000) (disch := ((try unfold LIM at *); omega)) only [↓bcase_true, ↓bcase_false, WA, simprocAttr, wrap_i64, WB8, dO, dH]
    refine Up.gc (.tup [.agg (dO fl o2 cap 0 d1 1 d2), .s (.bool true)]) [7, 8] (dH fl o2 d1 d2) (by simp) ?_ ?_ ⟨d1, d2, hd1, hd2, by rw [hb]; rfl, rfl⟩
    · exact ⟨.inl ⟨nrs_map fV_nr _, rfl⟩, .inl ⟨nrs_map oV_nr _, rfl⟩, trivial⟩
    · rfl
  · have e : List.map (rnB (emb [5, 3, 4] 6)) [⟨[dO fl ol cap 1 c1 2 c2], 3, 1, true⟩, ⟨fl.map fV, 2, c1, true⟩, ⟨ol.map oV, 3, c2, true⟩] = [⟨[dO fl ol cap 3 c1 4 c2], 3, 1, true⟩, ⟨fl.map fV, 2, c1, true⟩, ⟨ol.map oV, 3, c2, true⟩] := by
      show [rnB _ _, rnB _ _, rnB _ _] = _
      rw [nrs_rn _ (B := ⟨fl.map fV, 2, c1, true⟩) (nrs_map fV_nr _), nrs_rn _ (B := ⟨ol.map oV, 3, c2, true⟩) (nrs_map oV_nr _)]; rfl
    have ed : doOl fl ol cap o = ol := by simp [doOl, hb]
    rw [ed]
    simp only [List.length_cons, List.length_nil, Nat.zero_add, Nat.reduceAdd] at *
    rw [e]
    simp +contextual (maxSteps := 2000000) (disch := ((try unfold LIM at *); omega)) only [↓bcase_true, ↓bcase_false, WA, simprocAttr, wrap_i64, WB8, dO, rnRes, rnV, rnQ, rnC, rnP]
    refine CallThen.newD (new83 fl ol cap S.f S.o) 6 ?_ 1000 fun d1 d2 hd1 hd2 => ?_
    · simp +contextual (maxSteps := 2000000) (disch := ((try unfold LIM at *); omega)) only [↓bcase_true, ↓bcase_false, WA, simprocAttr, wrap_i64, dV, List.length_map, own_fl, own_ol, fV_frz, oV_frz, Nat.not_lt_zero]
    simp +contextual (maxSteps := 2000000) (disch := ((try unfold LIM at *); omega)) only [↓bcase_true, ↓bcase_false, WA, simprocAttr, wrap_i64, WB8, dO, dH]
    refine Up.gc (.tup [.agg (dO fl ol cap 0 d1 1 d2), .s (.bool false)]) [6, 7] (dH fl ol d1 d2) (by simp) ?_ ?_ ⟨d1, d2, hd1, hd2, by rw [hb]; rfl, rfl⟩
    · exact ⟨.inl ⟨nrs_map fV_nr _, rfl⟩, .inl ⟨nrs_map oV_nr _, rfl⟩, trivial⟩
    · rfl
end Go.Proofs.Ytpcgnmoogjahbaa
/- part D32 -/
set_option linter.unusedVariables false
set_option linter.unusedSimpArgs false
set_option maxRecDepth 100000
namespace Go.Proofs.Ytpcgnmoogjahbaa
open Go Go.W Go.RowKit
theorem NewV.fin {l : List Fl} {b len cap : Nat} {h : Go.W.H} (hb : h[b]? = some ⟨l.map fV, 2, cap, true⟩) (hl : len = l.length) (hc : l.length ≤ cap) :
    Up 0 (fun res h' => ∃ cap, l.length ≤ cap ∧ res = Res.ret (.sl 0 0 l.length cap) ∧ h' = [⟨l.map fV, 2, cap, true⟩]) (.ret (.sl b 0 len cap)) h := by
  subst hl
  exact Up.fresh hb (nrs_map fV_nr _) ⟨cap, hc, rfl, rfl⟩
theorem new107 (l : List Fl) (n : ByteArray) (hl : l.length ≤ 1048576) : NewV C 107 [.f 2 (l.map fV), .s (.string n)] 2 ((dropS l n).map fV) := by
  refine calls_of_run Try.func107 rfl (by kernel_rfl) (by kernel_rfl) (by simp) 1000 ?_
  simp +contextual (maxSteps := 2000000) (disch := ((try unfold LIM at *); omega)) only [↓bcase_true, ↓bcase_false, WA, simprocAttr, wrap_i64]
  refine LoopThen.own (ι := Nat × Nat) (fun p => p.1 ≤ l.length ∧ (dropS (l.take p.1) n).length ≤ p.2) (fun p => [(0, .f 2 (l.map fV)), (1, .s (.string n)), (5, .sl 0 0 (dropS (l.take p.1) n).length p.2), (6, .s (.int .i64 p.1))])
    (fun p => [⟨(dropS (l.take p.1) n).map fV, 2, p.2, true⟩]) (fun p => l.length - p.1) 1000 1000 ⟨(0, 0), ⟨Nat.zero_le _, Nat.zero_le _⟩, [0], by simp, by simp +contextual (maxSteps := 2000000) (disch := ((try unfold LIM at *); omega)) only [↓bcase_true, ↓bcase_false, WA, simprocAttr, wrap_i64, true_or, dropS, List.filter_nil], by simp +contextual (maxSteps := 2000000) (disch := ((try unfold LIM at *); omega)) only [↓bcase_true, ↓bcase_false, WA, simprocAttr, wrap_i64, dropS, List.filter_nil]⟩ ?_
  rintro ⟨i, cap⟩ ⟨p1, p2⟩
  by_cases c2 : (i : Int) < l.length
  · obtain ⟨f, hf⟩ := get_lt c2
    have pi : (0 : Int) ≤ i := by omega
    have ds : dropS (l.take (i + 1)) n = dropS (l.take i) n ++ if f.1 = n then [] else [f] := by
      unfold dropS; rw [List.take_add_one, hf, List.filter_append]
      by_cases c3 : f.1 = n <;> simp [c3]
    have dl := len_drop (l.take i) n
    rw [List.length_take] at dl
    by_cases c3 : f.1 = n
    · rw [if_pos c3, List.append_nil] at ds
      simp +contextual (maxSteps := 2000000) (disch := ((try unfold LIM at *); omega)) only [↓bcase_true, ↓bcase_false, WA, simprocAttr, wrap_i64, List.length_map, c2, hf, pi, fV, c3, cast_succ]
      intro _
      refine ⟨(i + 1, cap), ⟨⟨by omega, by rw [ds]; exact p2⟩, by omega⟩, [0], by simp, by simp +contextual (maxSteps := 2000000) (disch := ((try unfold LIM at *); omega)) only [↓bcase_true, ↓bcase_false, WA, simprocAttr, wrap_i64, ds, nrs_map fV_nr, true_or], by simp +contextual (maxSteps := 2000000) (disch := ((try unfold LIM at *); omega)) only [↓bcase_true, ↓bcase_false, WA, simprocAttr, wrap_i64, ds]⟩
    · rw [if_neg c3] at ds
      have q1 : (0 : Nat) ≤ (dropS (l.take i) n).length := Nat.zero_le _
      have q2 : ((dropS (l.take i) n).length + 1) * 32 ≤ 140737488355328 := by omega
      have q3 : (dropS (l.take i) n).length + 1 ≤ LIM := by unfold LIM; omega
      simp +contextual (maxSteps := 2000000) (disch := ((try unfold LIM at *); omega)) only [↓bcase_true, ↓bcase_false, WA, simprocAttr, wrap_i64, List.length_map, c2, hf, pi, fV, c3, cast_succ, q2, q3, takeTo, List.set_cons_zero]
      exact fun _ cap' hc _ => ⟨(i + 1, cap'), ⟨⟨by omega, by rw [ds]; simpa using hc⟩, by omega⟩, [2], by simp, by simp +contextual (maxSteps := 2000000) (disch := ((try unfold LIM at *); omega)) only [↓bcase_true, ↓bcase_false, WA, simprocAttr, wrap_i64, ds, List.map_append, fV, nrs_append, nrs_map fV_nr], by simp +contextual (maxSteps := 2000000) (disch := ((try unfold LIM at *); omega)) only [↓bcase_true, ↓bcase_false, WA, simprocAttr, wrap_i64, ds, List.length_append]⟩
  · have e : i = l.length := by simp at p1; omega
    subst e
    simp only [List.take_length] at *
    simp +contextual (maxSteps := 2000000) (disch := ((try unfold LIM at *); omega)) only [↓bcase_true, ↓bcase_false, WA, simprocAttr, wrap_i64, c2, List.length_map]
    intro _
    refine NewV.fin (b := 0) ?_ rfl p2
    rfl
theorem new106 (l : List Fl) (n d : ByteArray) (hl : l.length ≤ 1048576) : NewV C 106 [.f 2 (l.map fV), .s (.string n), .s (.string d)] 2 ((putS l n d).map fV) := by
  refine calls_of_run Try.func106 rfl (by kernel_rfl) (by kernel_rfl) (by simp) 1000 ?_
  simp +contextual (maxSteps := 2000000) (disch := ((try unfold LIM at *); omega)) only [↓bcase_true, ↓bcase_false, WA, simprocAttr, wrap_i64]
  refine LoopThen.pure (ι := Nat) (fun i => i ≤ (l.takeWhile fun f => ltB f.1 n).length) (fun i => keepL [(0, .f 2 (l.map fV)), (1, .s (.string n)), (2, .s (.string d)), (7, .s (.int .i64 i))]) (fun i => l.length - i) 6 [0, 1, 2, 7] 1000 1000 ⟨0, Nat.zero_le _, by simp +contextual (maxSteps := 2000000) (disch := ((try unfold LIM at *); omega)) only [↓bcase_true, ↓bcase_false, WA, simprocAttr, wrap_i64]⟩ ?_
  intro i p1
  have tl : (l.takeWhile fun f => ltB f.1 n).length ≤ l.length := by
    have := congrArg List.length (List.takeWhile_append_dropWhile (p := fun f : Fl => ltB f.1 n) (l := l))
    rw [List.length_append] at this; omega
  obtain ⟨e1, e2⟩ := tw_take (fun f : Fl => ltB f.1 n) l
  -- what comes behind the first loop
  have fin : i = (l.takeWhile fun f => ltB f.1 n).length → True := fun _ => trivial
  by_cases c2 : (i : Int) < l.length
  · obtain ⟨f, hf⟩ := get_lt c2
    have pi : (0 : Int) ≤ i := by omega
    obtain ⟨t1, t2⟩ := tw_get _ l i f hf p1
    cases c3 : ltB f.1 n with
    | true =>
      have b3 : Op.bytesLess f.1.toList n.toList = true := c3
      have := t1 c3
      simp +contextual (maxSteps := 2000000) (disch := ((try unfold LIM at *); omega)) only [↓bcase_true, ↓bcase_false, WA, simprocAttr, wrap_i64, List.length_map, c2, hf, pi, fV, b3, cast_succ]
      exact fun _ => ⟨i + 1, ⟨this, by omega⟩, rfl⟩
    | false =>
      have b3 : Op.bytesLess f.1.toList n.toList = false := c3
      have ei := t2 c3
      have ni : l.take i = l.takeWhile fun f => ltB f.1 n := by rw [ei]; exact e1
      have nd : l.dropWhile (fun f => ltB f.1 n) = f :: l.drop (i + 1) := by rw [← drop_cons hf, ei]; exact e2.symm
      have hA : (l.take i).length = i := by rw [List.length_take]; omega
      have hil : (i : Int) ≤ l.length := by omega
      have r0 : i * 32 ≤ 140737488355328 ∧ i ≤ LIM ∧ (i + 1) * 32 ≤ 140737488355328 ∧ i + 1 ≤ LIM := by unfold LIM; omega
      by_cases c4 : f.1 = n
      · have b4 : Op.bytesLess n.toList n.toList = false := c4 ▸ b3
        have hB : List.take (l.length - (i + 1)) (l.drop (i + 1)) = l.drop (i + 1) := List.take_of_length_le (by simp)
        have hBl : (l.drop (i + 1)).length = l.length - (i + 1) := by simp
        have r1 : (i + 1 + (l.length - (i + 1))) * 32 ≤ 140737488355328 ∧ i + 1 + (l.length - (i + 1)) ≤ LIM := by unfold LIM; omega
        have hp : putS l n d = l.take i ++ [(n, d)] ++ l.drop (i + 1) := by simp [putS, nd, c4, ni]
        have hc : List.map fV (l.take i) ++ [[V.s (.string n), V.s (.string d)]] ++ List.map fV (l.drop (i + 1)) = (putS l n d).map fV := by rw [hp]; simp [fV]
        have hn : i + 1 + (l.length - (i + 1)) = (putS l n d).length := by rw [hp]; simp; omega
        rw [hn] at r1
        have pk : (0 : Int) ≤ (((i + 1) : Nat) : Int) ∧ (((i + 1) : Nat) : Int) ≤ l.length := by omega
        simp +contextual (maxSteps := 2000000) (disch := ((try unfold LIM at *); omega)) only [↓bcase_true, ↓bcase_false, WA, simprocAttr, wrap_i64, List.length_map, c2, hf, fV, b4, c4, cast_succ, Nat.sub_zero, ← List.map_take, ← List.map_drop, hA, hil, pk, r0, leafs_map fV_ok, hB, hBl, r1, takeTo, List.length_append, hc, hn, pi, List.take_length]
        intros
        refine NewV.fin (b := 4) ?_ rfl (by first | assumption | omega)
        rfl
      · have hB : List.take (l.length - i) (l.drop i) = l.drop i := List.take_of_length_le (by simp)
        have hBl : (l.drop i).length = l.length - i := by simp
        have r1 : (i + 1 + (l.length - i)) * 32 ≤ 140737488355328 ∧ i + 1 + (l.length - i) ≤ LIM := by unfold LIM; omega
        have hp : putS l n d = l.take i ++ [(n, d)] ++ l.drop i := by rw [drop_cons hf]; simp [putS, nd, c4, ni]
        have hc : List.map fV (l.take i) ++ [[V.s (.string n), V.s (.string d)]] ++ List.map fV (l.drop i) = (putS l n d).map fV := by rw [hp]; simp [fV]
        have hn : i + 1 + (l.length - i) = (putS l n d).length := by rw [hp]; simp; omega
        rw [hn] at r1
        have pk : (0 : Int) ≤ ((i : Nat) : Int) ∧ ((i : Nat) : Int) ≤ l.length := by omega
        simp +contextual (maxSteps := 2000000) (disch := ((try unfold LIM at *); omega)) only [↓bcase_true, ↓bcase_false, WA, simprocAttr, wrap_i64, List.length_map, c2, hf, fV, b3, c4, cast_succ, Nat.sub_zero, ← List.map_take, ← List.map_drop, hA, hil, pk, r0, leafs_map fV_ok, hB, hBl, r1, takeTo, List.length_append, hc, hn, pi, List.take_length]
        intros
        refine NewV.fin (b := 4) ?_ rfl (by first | assumption | omega)
        rfl
  · have e : i = l.length := by omega
    have pi : (0 : Int) ≤ i := by omega
    have ni : l.take i = l.takeWhile fun f => ltB f.1 n := by rw [show i = (l.takeWhile fun f => ltB f.1 n).length by omega]; exact e1
    have nd : l.dropWhile (fun f => ltB f.1 n) = [] := by rw [← e2]; exact List.drop_eq_nil_of_le (by omega)
    have hA : (l.take i).length = i := by rw [List.length_take]; omega
    have hil : (i : Int) ≤ l.length := by omega
    have r0 : i * 32 ≤ 140737488355328 ∧ i ≤ LIM ∧ (i + 1) * 32 ≤ 140737488355328 ∧ i + 1 ≤ LIM := by unfold LIM; omega
    have hB : List.take (l.length - i) (l.drop i) = l.drop i := List.take_of_length_le (by simp)
    have hBl : (l.drop i).length = l.length - i := by simp
    have r1 : (i + 1 + (l.length - i)) * 32 ≤ 140737488355328 ∧ i + 1 + (l.length - i) ≤ LIM := by unfold LIM; omega
    have hp : putS l n d = l.take i ++ [(n, d)] ++ l.drop i := by rw [List.drop_eq_nil_of_le (show l.length ≤ i by omega)]; simp [putS, nd, ni]
    have hc : List.map fV (l.take i) ++ [[V.s (.string n), V.s (.string d)]] ++ List.map fV (l.drop i) = (putS l n d).map fV := by rw [hp]; simp [fV]
    have hn : i + 1 + (l.length - i) = (putS l n d).length := by rw [hp]; simp; omega
    rw [hn] at r1
    have pk : (0 : Int) ≤ ((i : Nat) : Int) ∧ ((i : Nat) : Int) ≤ l.length := by omega
    simp +contextual (maxSteps := 2000000) (disch := ((try unfold LIM at *); omega)) only [↓bcase_true, ↓bcase_false, WA, simprocAttr, wrap_i64, List.length_map, c2, fV, cast_succ, Nat.sub_zero, ← List.map_take, ← List.map_drop, hA, hil, pk, r0, leafs_map fV_ok, hB, hBl, r1, takeTo, List.length_append, hc, hn, pi, List.take_length]
    intros
    refine NewV.fin (b := 4) ?_ rfl (by first | assumption | omega)
    rfl
theorem new71 (l : List Fl) (o : Opn) (hl : l.length ≤ 1048576) (hs : (getS l o.2.1).1.size + o.2.2.size ≤ 9223372036854775807) : NewV C 71 [.f 2 (l.map fV), .agg (oV o)] 2 ((doS l o).map fV) := by
  refine calls_of_run Try.func71 rfl (by kernel_rfl) (by kernel_rfl) (by simp) 1000 ?_
  obtain ⟨k, n, d⟩ := o
  simp +contextual (maxSteps := 2000000) (disch := ((try unfold LIM at *); omega)) only [↓bcase_true, ↓bcase_false, WA, simprocAttr, wrap_i64, oV]
  refine CallThen.pure (walk97 l n) 1000 ?_
  by_cases c1 : k = 1
  · simp +contextual (maxSteps := 2000000) (disch := ((try unfold LIM at *); omega)) only [↓bcase_true, ↓bcase_false, WA, simprocAttr, wrap_i64, c1, doS]
    refine CallThen.new (new106 l n d hl) (nrs_map fV_nr _) (fun _ => rfl) 1000 fun cp hc => ?_
    rw [List.length_map] at hc
    simp +contextual (maxSteps := 2000000) (disch := ((try unfold LIM at *); omega)) only [↓bcase_true, ↓bcase_false, WA, simprocAttr, wrap_i64, List.length_map]
    refine NewV.fin (b := 1) ?_ rfl hc
    rfl
  by_cases c2 : k = 2
  · have hs' : (getS l n).1.size + d.size ≤ LIM := hs
    simp +contextual (maxSteps := 2000000) (disch := ((try unfold LIM at *); omega)) only [↓bcase_true, ↓bcase_false, WA, simprocAttr, wrap_i64, c2, doS, hs']
    refine CallThen.new (new106 l n _ hl) (nrs_map fV_nr _) (fun _ => rfl) 1000 fun cp hc => ?_
    rw [List.length_map] at hc
    simp +contextual (maxSteps := 2000000) (disch := ((try unfold LIM at *); omega)) only [↓bcase_true, ↓bcase_false, WA, simprocAttr, wrap_i64, List.length_map]
    refine NewV.fin (b := 1) ?_ rfl hc
    rfl
  by_cases c3 : k = 3
  · cases c4 : (getS l n).2 with
    | true =>
      simp +contextual (maxSteps := 2000000) (disch := ((try unfold LIM at *); omega)) only [↓bcase_true, ↓bcase_false, WA, simprocAttr, wrap_i64, c3, doS, c4]
      refine DrawThen.of 1000 [] (.old 0 (.old 1 (.old 2 (.old 4 (.old 5 (.old 6 (.go 3 (.go 7 (.new 8 .done))))))))) (panFree_body _ _) (by kernel_rfl) (by kernel_rfl) (by kernel_rfl) ?_
      simp +contextual (maxSteps := 2000000) (disch := ((try unfold LIM at *); omega)) only [↓bcase_true, ↓bcase_false, WA, simprocAttr, wrap_i64]
      refine DCall.new (new107 l n hl) (nrs_map fV_nr _) (fun _ => rfl) 1000 (.go 7 (.new 8 .done)) (by kernel_rfl) fun cp hc => ?_
      rw [List.length_map] at hc
      simp +contextual (maxSteps := 2000000) (disch := ((try unfold LIM at *); omega)) only [↓bcase_true, ↓bcase_false, WA, simprocAttr, wrap_i64, List.length_map]
      refine DCall.newB (new106 (dropS l n) d (getS l n).1 (Nat.le_trans (len_drop l n) hl)) (plains_map fV_plain _) 6 ?_ 1000 (.new 8 .done) (by kernel_rfl) fun cp' hc' => ?_
      · simp +contextual (maxSteps := 2000000) (disch := ((try unfold LIM at *); omega)) only [↓bcase_true, ↓bcase_false, WA, simprocAttr, wrap_i64, List.length_map, own_fl, fV_frz, Nat.not_lt_zero]
      rw [List.length_map] at hc'
      simp +contextual (maxSteps := 2000000) (disch := ((try unfold LIM at *); omega)) only [↓bcase_true, ↓bcase_false, WA, simprocAttr, wrap_i64, List.length_map]
      refine NewV.fin (b := 2) ?_ rfl hc'
      rfl
    | false =>
      have q1 : l.length * 32 ≤ 140737488355328 ∧ l.length ≤ LIM := by unfold LIM; omega
      simp +contextual (maxSteps := 2000000) (disch := ((try unfold LIM at *); omega)) only [↓bcase_true, ↓bcase_false, WA, simprocAttr, wrap_i64, c3, doS, c4, leafs_map fV_ok, List.length_map, q1, takeTo, List.take_length, take_map_len]
      intro cap' hc _
      refine NewV.fin (b := 2) ?_ rfl hc
      rfl
  by_cases c5 : k = 4
  · simp +contextual (maxSteps := 2000000) (disch := ((try unfold LIM at *); omega)) only [↓bcase_true, ↓bcase_false, WA, simprocAttr, wrap_i64, c5, doS]
    refine CallThen.new (new107 l n hl) (nrs_map fV_nr _) (fun _ => rfl) 1000 fun cp hc => ?_
    rw [List.length_map] at hc
    simp +contextual (maxSteps := 2000000) (disch := ((try unfold LIM at *); omega)) only [↓bcase_true, ↓bcase_false, WA, simprocAttr, wrap_i64, List.length_map]
    refine NewV.fin (b := 1) ?_ rfl hc
    rfl
  · have q1 : l.length * 32 ≤ 140737488355328 ∧ l.length ≤ LIM := by unfold LIM; omega
    simp +contextual (maxSteps := 2000000) (disch := ((try unfold LIM at *); omega)) only [↓bcase_true, ↓bcase_false, WA, simprocAttr, wrap_i64, c1, c2, c3, c5, doS, leafs_map fV_ok, List.length_map, q1, takeTo, List.take_length, take_map_len]
    intro cap' hc _
    refine NewV.fin (b := 2) ?_ rfl hc
    rfl
end Go.Proofs.Ytpcgnmoogjahbaa
/- part D33 -/
set_option linter.unusedVariables false
set_option linter.unusedSimpArgs false
set_option maxRecDepth 100000
namespace Go.Proofs.Ytpcgnmoogjahbaa
open Go Go.W Go.RowKit
theorem new100 (fl : List Fl) (ol : List Opn) (cap n : Int) (g : Good fl ol cap) (hs : ∀ o ∈ ol, oneO o ≤ 1048576) : NewV C 100 [.f 2 (fl.map fV), .f 3 (ol.map oV), .s (.int .i64 n)] 2 ((seeS fl ol n.toNat).map fV) := by
  refine calls_of_run Try.func100 rfl (by kernel_rfl) (by kernel_rfl) (by simp) 1000 ?_
  have hf := g.fl
  have hol := g.late
  have q1 : fl.length * 32 ≤ 140737488355328 ∧ fl.length ≤ LIM := by unfold LIM; omega
  simp +contextual (maxSteps := 2000000) (disch := ((try unfold LIM at *); omega)) only [↓bcase_true, ↓bcase_false, WA, simprocAttr, wrap_i64, List.length_map, leafs_map fV_ok, q1, takeTo, List.take_length, take_map_len]
  intro cap' hc _
  refine LoopThen.own (ι := Nat × Nat) (fun p => (p.1 ≤ n.toNat ∧ p.1 ≤ ol.length) ∧ (seeS fl ol p.1).length ≤ p.2) (fun p => [(0, .sl 0 0 (seeS fl ol p.1).length p.2), (1, .f 3 (ol.map oV)), (2, .s (.int .i64 n)), (7, .s (.int .i64 p.1))])
    (fun p => [⟨(seeS fl ol p.1).map fV, 2, p.2, true⟩]) (fun p => ol.length - p.1) 1000 1000
    ⟨(0, cap'), ⟨⟨Nat.zero_le _, Nat.zero_le _⟩, hc⟩, [1], by simp, by simp +contextual (maxSteps := 2000000) (disch := ((try unfold LIM at *); omega)) only [↓bcase_true, ↓bcase_false, WA, simprocAttr, wrap_i64, see_zero, nrs_map fV_nr, true_or], by simp +contextual (maxSteps := 2000000) (disch := ((try unfold LIM at *); omega)) only [↓bcase_true, ↓bcase_false, WA, simprocAttr, wrap_i64, see_zero]⟩ ?_
  rintro ⟨i, cp⟩ ⟨⟨p1, p2⟩, pc⟩
  simp only at p1 p2 pc
  by_cases d1 : (i : Int) < n
  rotate_left
  · have e : seeS fl ol i = seeS fl ol n.toNat := by rw [show i = n.toNat by omega]
    rw [e] at pc ⊢
    simp +contextual (maxSteps := 2000000) (disch := ((try unfold LIM at *); omega)) only [↓bcase_true, ↓bcase_false, WA, simprocAttr, wrap_i64, d1]
    refine NewV.fin (b := 0) ?_ rfl pc
    rfl
  by_cases d2 : (i : Int) < ol.length
  · obtain ⟨o, ho⟩ := get_lt d2
    have pi : (0 : Int) ≤ i := by omega
    simp +contextual (maxSteps := 2000000) (disch := ((try unfold LIM at *); omega)) only [↓bcase_true, ↓bcase_false, WA, simprocAttr, wrap_i64, List.length_map, d1, d2, ho, pi, oV]
    intro _
    have hz := (g.size i).1
    refine CallThen.newB (new71 (seeS fl ol i) o (by omega) (g.step hs ho)) (plains_map fV_plain _) 6 ?_ 1000 fun cp' hc' => ?_
    · simp +contextual (maxSteps := 2000000) (disch := ((try unfold LIM at *); omega)) only [↓bcase_true, ↓bcase_false, WA, simprocAttr, wrap_i64, List.length_map, own_fl, fV_frz, Nat.not_lt_zero, oV]
    rw [List.length_map] at hc'
    simp +contextual (maxSteps := 2000000) (disch := ((try unfold LIM at *); omega)) only [↓bcase_true, ↓bcase_false, WA, simprocAttr, wrap_i64, List.length_map, ← see_succ ho, cast_succ]
    rw [← see_succ ho] at hc'
    exact ⟨(i + 1, cp'), ⟨⟨⟨by omega, by omega⟩, hc'⟩, by simp only; omega⟩, [1], by simp, by simp +contextual (maxSteps := 2000000) (disch := ((try unfold LIM at *); omega)) only [↓bcase_true, ↓bcase_false, WA, simprocAttr, wrap_i64, true_or, nrs_map fV_nr], by simp +contextual (maxSteps := 2000000) (disch := ((try unfold LIM at *); omega)) only [↓bcase_true, ↓bcase_false, WA, simprocAttr, wrap_i64, List.length_map]⟩
  · have e : seeS fl ol i = seeS fl ol n.toNat := by rw [see_all (i := i) (by omega), see_all (i := n.toNat) (by omega)]
    rw [e] at pc ⊢
    simp +contextual (maxSteps := 2000000) (disch := ((try unfold LIM at *); omega)) only [↓bcase_true, ↓bcase_false, WA, simprocAttr, wrap_i64, List.length_map, d1, d2]
    intros
    refine NewV.fin (b := 0) ?_ rfl pc
    rfl
theorem new86 (fl : List Fl) (ol : List Opn) (cap : Int) (g : Good fl ol cap) (hs : ∀ o ∈ ol, oneO o ≤ 1048576) : NewV C 86 [.agg (dV fl ol cap)] 2 ((seeS fl ol ol.length).map fV) := by
  refine calls_of_run Try.func86 rfl (by kernel_rfl) (by kernel_rfl) (by simp) 1000 ?_
  have hol := g.late
  have w := new100 fl ol cap ol.length g hs
  rw [Int.toNat_natCast] at w
  simp +contextual (maxSteps := 2000000) (disch := ((try unfold LIM at *); omega)) only [↓bcase_true, ↓bcase_false, WA, simprocAttr, wrap_i64, dV, List.length_map]
  intro _
  refine CallThen.new w (nrs_map fV_nr _) (fun _ => rfl) 1000 fun cp hc => ?_
  rw [List.length_map] at hc
  simp +contextual (maxSteps := 2000000) (disch := ((try unfold LIM at *); omega)) only [↓bcase_true, ↓bcase_false, WA, simprocAttr, wrap_i64, List.length_map]
  refine NewV.fin (b := 1) ?_ rfl hc
  rfl
theorem NewD.fin {fl : List Fl} {ol : List Opn} {cap : Int} {b1 b2 c1 c2 : Nat} {h : Go.W.H} (h1 : h[b1]? = some ⟨fl.map fV, 2, c1, true⟩) (h2 : h[b2]? = some ⟨ol.map oV, 3, c2, true⟩) (hne : b1 ≠ b2) (hc1 : fl.length ≤ c1) (hc2 : ol.length ≤ c2) :
    Up 0 (fun res h' => ∃ c1 c2, fl.length ≤ c1 ∧ ol.length ≤ c2 ∧ res = .ret (.agg (dO fl ol cap 0 c1 1 c2)) ∧ h' = dH fl ol c1 c2) (.ret (.agg [.sl b1 0 fl.length c1, .sl b2 0 ol.length c2, .s (.int .i64 cap)])) h := by
  refine Up.gc (.agg (dO fl ol cap 0 c1 1 c2)) [b1, b2] (dH fl ol c1 c2) (by simp [hne]) ?_ ?_ ⟨c1, c2, hc1, hc2, rfl, rfl⟩
  · exact ⟨.inl ⟨nrs_map fV_nr _, h1⟩, .inl ⟨nrs_map oV_nr _, h2⟩, trivial⟩
  · rfl
theorem new85 (fl : List Fl) (ol : List Opn) (cap : Int) (hf : fl.length ≤ 1048576) (ho : ol.length ≤ 1048576) : NewD 85 [.agg (dV fl ol cap)] fl ol cap := by
  refine calls_of_run Try.func85 rfl (by kernel_rfl) (by kernel_rfl) (by simp) 1000 ?_
  simp +contextual (maxSteps := 2000000) (disch := ((try unfold LIM at *); omega)) only [↓bcase_true, ↓bcase_false, WA, simprocAttr, wrap_i64, dV]
  refine DrawThen.of 1000 [1] (.old 1 (.old 2 (.old 5 (.old 6 (.old 8 (.old 9 (.or 0 (.or 3 (.go 4 (.go 7 (.new 10 (.go 11 .done)))) (.go 4 (.go 3 (.go 7 (.new 10 (.go 11 .done)))))) (.go 4 (.go 0 (.go 3 (.go 7 (.new 10 (.go 11 .done))))))))))))) (panFree_body _ _) (by kernel_rfl) (by kernel_rfl) (by kernel_rfl) ?_
  have q1 : fl.length * 32 ≤ 140737488355328 ∧ fl.length ≤ LIM := by unfold LIM; omega
  have q2 : ol.length * 40 ≤ 140737488355328 ∧ ol.length ≤ LIM := by unfold LIM; omega
  simp +contextual (maxSteps := 2000000) (disch := ((try unfold LIM at *); omega)) only [↓bcase_true, ↓bcase_false, WA, simprocAttr, wrap_i64, dV, leafs_map fV_ok, leafs_map oV_ok, List.length_map, q1, q2, takeTo, List.take_length, take_map_len]
  repeat' apply And.intro
  all_goals
    intro c1 hc1 _ c2 hc2 _
    refine NewD.fin ?_ ?_ (by simp) hc1 hc2 <;> rfl
theorem walk37 (fl : List Fl) (ol : List Opn) (cap : Int) (o : Opn) (S : Sized fl ol 1048576) (ho : oneO o ≤ 1048576) (g : Good fl ol cap) (hd : diskOk fl ol cap = true) :
    PureV C 37 [.agg (dV fl ol cap), .agg (oV o)] (.tup [.agg (dV fl (doOl fl ol cap o) cap), .s (.bool (goB fl ol cap o))]) := by
  refine pure_of_run Try.func37 rfl (by kernel_rfl) (by kernel_rfl) (by simp) (fun _ => rfl) (fun _ => rfl) 6 1000 ?_
  simp +contextual (maxSteps := 2000000) (disch := ((try unfold LIM at *); omega)) only [↓bcase_true, ↓bcase_false, WA, simprocAttr, wrap_i64, dV, oV]
  refine CallThen.pure (walk31 fl ol cap S.f S.o S.b S.s) 1000 ?_
  simp +contextual (maxSteps := 2000000) (disch := ((try unfold LIM at *); omega)) only [↓bcase_true, ↓bcase_false, WA, simprocAttr, wrap_i64, dV, hd]
  refine CallThen.newD (new85 fl ol cap S.f S.o) 6 (by simp +contextual (maxSteps := 2000000) (disch := ((try unfold LIM at *); omega)) only [↓bcase_true, ↓bcase_false, WA, simprocAttr, wrap_i64, dV, frzs_f]) 1000 fun c1 c2 hc1 hc2 => ?_
  simp +contextual (maxSteps := 2000000) (disch := ((try unfold LIM at *); omega)) only [↓bcase_true, ↓bcase_false, WA, simprocAttr, wrap_i64, dO, dH]
  refine DrawThen.of 1000 [3, 4] (.old 0 (.old 1 (.old 2 (.old 3 (.old 4 (.old 5 (.old 6 (.old 7 (.old 8 (.old 9 (.old 10 (.old 11 (.old 12 (.old 13 (.old 14 (.old 15 (.old 17 (.old 19 (.old 20 (.go 16 (.go 18 (.go 21 (.new 22 (.new 23 .done)))))))))))))))))))))))) (panFree_pure _ _ _) (by kernel_rfl) (by kernel_rfl) (by kernel_rfl) ?_
  by_cases e1 : o.1 < 1
  · have hb : goB fl ol cap o = false := by simp [goB]; omega
    have ed : doOl fl ol cap o = ol := by simp [doOl, hb]
    rw [ed, hb]
    simp +contextual (maxSteps := 2000000) (disch := ((try unfold LIM at *); omega)) only [↓bcase_true, ↓bcase_false, WA, simprocAttr, wrap_i64, dV, e1, List.length_map, own_fl, own_ol, fV_frz, oV_frz, Nat.not_lt_zero]
  by_cases e2 : 4 < o.1
  · have hb : goB fl ol cap o = false := by simp [goB]; omega
    have ed : doOl fl ol cap o = ol := by simp [doOl, hb]
    rw [ed, hb]
    simp +contextual (maxSteps := 2000000) (disch := ((try unfold LIM at *); omega)) only [↓bcase_true, ↓bcase_false, WA, simprocAttr, wrap_i64, dV, e1, e2, List.length_map, own_fl, own_ol, fV_frz, oV_frz, Nat.not_lt_zero]
  have e12 : 1 ≤ o.1 ∧ o.1 ≤ 4 := by omega
  by_cases e3 : (ol.length : Int) = 2000
  · have hb : goB fl ol cap o = false := by have : ol.length = 2000 := by omega
                                            simp [goB, this]
    have ed : doOl fl ol cap o = ol := by simp [doOl, hb]
    rw [ed, hb]
    simp +contextual (maxSteps := 2000000) (disch := ((try unfold LIM at *); omega)) only [↓bcase_true, ↓bcase_false, WA, simprocAttr, wrap_i64, dV, e1, e2, e3, List.length_map, own_fl, own_ol, fV_frz, oV_frz, Nat.not_lt_zero]
  generalize hl : seeS fl ol ol.length = l at *
  have pa : ascS l = true := hl ▸ g.asc _
  have sz : l.length ≤ 20 ∧ sizeF l ≤ 1000000 := hl ▸ g.size _
  have w86 := new86 fl ol cap g S.s
  rw [hl] at w86
  simp +contextual (maxSteps := 2000000) (disch := ((try unfold LIM at *); omega)) only [↓bcase_true, ↓bcase_false, WA, simprocAttr, wrap_i64, oV, e1, e2, e3, List.length_map]
  refine DCall.newB w86 (plains_map fV_plain _) 6 ?_ 1000 (.go 18 (.go 21 (.new 22 (.new 23 .done)))) (by kernel_rfl) fun cp hc => ?_
  · simp +contextual (maxSteps := 2000000) (disch := ((try unfold LIM at *); omega)) only [↓bcase_true, ↓bcase_false, WA, simprocAttr, wrap_i64, dV, List.length_map, own_fl, own_ol, fV_frz, oV_frz, Nat.not_lt_zero]
  rw [List.length_map] at hc
  have b2 := sizeF_get l o.2.1
  simp only [oneO] at ho
  have b1 := do_bound l o
  simp +contextual (maxSteps := 2000000) (disch := ((try unfold LIM at *); omega)) only [↓bcase_true, ↓bcase_false, WA, simprocAttr, wrap_i64, oV, List.length_map]
  refine DCall.newB (new71 l o (by omega) (by omega)) (plains_map fV_plain _) 6 ?_ 1000 (.go 21 (.new 22 (.new 23 .done))) (by kernel_rfl) fun cp' hc' => ?_
  · simp +contextual (maxSteps := 2000000) (disch := ((try unfold LIM at *); omega)) only [↓bcase_true, ↓bcase_false, WA, simprocAttr, wrap_i64, List.length_map, own_fl, fV_frz, Nat.not_lt_zero, oV]
  rw [List.length_map] at hc'
  simp +contextual (maxSteps := 2000000) (disch := ((try unfold LIM at *); omega)) only [↓bcase_true, ↓bcase_false, WA, simprocAttr, wrap_i64, List.length_map]
  refine DCall.borrow (walk70 (doS l o) cap (by omega)) (flat_s _) 6 ?_ 1000 (.new 22 (.new 23 .done)) (by kernel_rfl) ?_
  · simp +contextual (maxSteps := 2000000) (disch := ((try unfold LIM at *); omega)) only [↓bcase_true, ↓bcase_false, WA, simprocAttr, wrap_i64, List.length_map, fV_frz, Nat.not_lt_zero, own_fl]
  by_cases e4 : fits (doS l o) cap
  rotate_left
  · have hb : goB fl ol cap o = false := by simp [goB, hl, e4]
    have ed : doOl fl ol cap o = ol := by simp [doOl, hb]
    rw [ed, hb]
    simp +contextual (maxSteps := 2000000) (disch := ((try unfold LIM at *); omega)) only [↓bcase_true, ↓bcase_false, WA, simprocAttr, wrap_i64, e4, List.length_map, own_fl, own_ol, fV_frz, oV_frz, Nat.not_lt_zero]
  have hb : goB fl ol cap o = true := by simp [goB, hl, e12, e4]; omega
  have ed : doOl fl ol cap o = ol ++ [o] := by simp [doOl, hb]
  rw [ed, hb]
  have hol := g.late
  have q1 : (ol.length + 1) * 40 ≤ 140737488355328 := by omega
  have q2 : ol.length + 1 ≤ LIM := by unfold LIM; omega
  have hm : List.map oV ol ++ [[.s (.int .i64 o.1), .s (.string o.2.1), .s (.string o.2.2)]] = (ol ++ [o]).map oV := by simp [oV]
  have hl1 : ol.length + 1 = (ol ++ [o]).length := by simp
  have hle : ol.length + 1 ≤ (ol ++ [o]).length := by simp
  have tk : List.take (ol.length + 1) (List.map oV (ol ++ [o])) = (ol ++ [o]).map oV := List.take_of_length_le (by simp)
  simp +contextual (maxSteps := 2000000) (disch := ((try unfold LIM at *); omega)) only [↓bcase_true, ↓bcase_false, WA, simprocAttr, wrap_i64, e4, leafs_map oV_ok, List.length_map, q1, q2, takeTo, List.take_length, take_map_len, hm, hle, tk, own_fl, own_ol, fV_frz, oV_frz, Nat.not_lt_zero]
/-- What an operation makes of a disk. -/
def opF (fl : List Fl) (ol : List Opn) (cap : Int) : List Fl := if diskOk fl ol cap = true then fl else []
def opO (fl : List Fl) (ol : List Opn) (cap : Int) (o : Opn) : List Opn := if diskOk fl ol cap = true then doOl fl ol cap o else []
def opB (fl : List Fl) (ol : List Opn) (cap : Int) (o : Opn) : Bool := diskOk fl ol cap && goB fl ol cap o
theorem spec37 (fl : List Fl) (ol : List Opn) (cap : Int) (o : Opn) (S : Sized fl ol 1048576) (ho : oneO o ≤ 1048576) :
    PureV C 37 [.agg (dV fl ol cap), .agg (oV o)] (.tup [.agg (dV (opF fl ol cap) (opO fl ol cap o) (fallC fl ol cap)), .s (.bool (opB fl ol cap o))]) := by
  cases c : diskOk fl ol cap with
  | true =>
    have e1 : opF fl ol cap = fl := by simp [opF, c]
    have e2 : opO fl ol cap o = doOl fl ol cap o := by simp [opO, c]
    have e3 : opB fl ol cap o = goB fl ol cap o := by simp [opB, c]
    have e4 : fallC fl ol cap = cap := by simp [fallC, c]
    rw [e1, e2, e3, e4]
    exact walk37 fl ol cap o S ho (good_of c) c
  | false =>
    have e1 : opF fl ol cap = [] := by simp [opF, c]
    have e2 : opO fl ol cap o = [] := by simp [opO, c]
    have e3 : opB fl ol cap o = false := by simp [opB, c]
    have e4 : fallC fl ol cap = 0 := by simp [fallC, c]
    rw [e1, e2, e3, e4]
    refine PureV.weak (r := .tup [.agg [.z, .z, .s (.int .i64 0)], .s (.bool false)]) ?_ (wkV_tup ⟨wkQ_agg ⟨wkC_z 2, wkC_z 3, wkC_refl _, trivial⟩, wkQ_refl _, trivial⟩) (fun _ => rfl)
    refine pure_of_run Try.func37 rfl (by kernel_rfl) (by kernel_rfl) (by simp) (fun _ => rfl) (fun _ => rfl) 6 1000 ?_
    simp +contextual (maxSteps := 2000000) (disch := ((try unfold LIM at *); omega)) only [↓bcase_true, ↓bcase_false, WA, simprocAttr, wrap_i64, dV, oV]
    refine CallThen.pure (walk31 fl ol cap S.f S.o S.b S.s) 1000 ?_
    simp +contextual (maxSteps := 2000000) (disch := ((try unfold LIM at *); omega)) only [↓bcase_true, ↓bcase_false, WA, simprocAttr, wrap_i64, dV, c]
def NewDB (f : Nat) (args : List V) (fl : List Fl) (ol : List Opn) (cap : Int) (b : Bool) : Prop :=
  CallsV C f args [] fun res h' => ∃ c1 c2, fl.length ≤ c1 ∧ ol.length ≤ c2 ∧ res = .ret (.tup [.agg (dO fl ol cap 0 c1 1 c2), .s (.bool b)]) ∧ h' = dH fl ol c1 c2
theorem NewDB.at_ {f : Nat} {args args' : List V} {fl : List Fl} {ol : List Opn} {cap : Int} {b : Bool} (p : NewDB f args fl ol cap b) (d : Nat) (H : Go.W.H) (ha : args = args'.map (frz 0 d H)) :
    CallsV C f args' H fun res h' => ∃ c1 c2, fl.length ≤ c1 ∧ ol.length ≤ c2 ∧ res = .ret (.tup [.agg (dO fl ol cap H.length c1 (H.length + 1) c2), .s (.bool b)]) ∧ h' = H ++ dH fl ol c1 c2 := by
  refine (CallsV.lend p ?_ d H ha).mono fun res h' ⟨r, h1, ⟨c1, c2, q1, q2, q3, q4⟩, q5, q6⟩ => ⟨c1, c2, q1, q2, ?_, by rw [q6, q4]⟩
  · rintro r h' ⟨c1, c2, q1, q2, rfl, rfl⟩
    exact ⟨rfl, by simp [dH, plains_map fV_plain, plains_map oV_plain]⟩
  · rw [q5, q3]; rfl
theorem CallThen.newDB {N n0 : Nat} {Q : QT} {k : List It} {τ : Tau} {h : Go.W.H} {f : Nat} {args args' : List V} {fl : List Fl} {ol : List Opn} {cap : Int} {b : Bool} {d : Option Nat} (p : NewDB f args fl ol cap b) (dd : Nat) (ha : args = args'.map (frz 0 dd h)) (m : Nat)
    (hr : ∀ c1 c2, fl.length ≤ c1 → ol.length ≤ c2 → Run C N n0 m Q k (upo d (.tup [.agg (dO fl ol cap h.length c1 (h.length + 1) c2), .s (.bool b)]) τ) (h ++ dH fl ol c1 c2)) : CallThen C N n0 Q f args' d k τ h :=
  CallThen.of m (p.at_ dd h ha) fun res h' ⟨c1, c2, e1, e2, e3, e4⟩ => by subst e3; subst e4; exact hr c1 c2 e1 e2
theorem DCall.newDB {N n0 : Nat} {Q : QT} {k : List It} {τ : Tau} {h : Go.W.H} {h0 : Go.W.H} {exc : List Nat} {ops : Array Oper} {fuel : Nat} {listed : Array Bool} {f : Nat} {args args' : List V} {fl : List Fl} {ol : List Opn} {cap : Int} {b : Bool} {d : Option Nat} {nw : List Nat} (p : NewDB f args fl ol cap b) (dd : Nat) (ha : args = args'.map (frz 0 dd (hide h0 exc h))) (m : Nat) (td : TD) (hd : drawOk ops [] listed td = true)
    (hr : ∀ c1 c2, fl.length ≤ c1 → ol.length ≤ c2 → RunD C N n0 m Q k h0 exc ops fuel listed td (addN d nw) (upo d (.tup [.agg (dO fl ol cap (hide h0 exc h).length c1 ((hide h0 exc h).length + 1) c2), .s (.bool b)]) τ) (show_ h0 exc h (hide h0 exc h ++ dH fl ol c1 c2))) : DCall C N n0 Q h0 exc ops fuel listed k f args' d nw τ h :=
  DCall.of m td hd (p.at_ dd _ ha) fun res h' ⟨c1, c2, e1, e2, e3, e4⟩ => by subst e3; subst e4; exact hr c1 c2 e1 e2
theorem impl36 (fl : List Fl) (ol : List Opn) (cap : Int) (o : Opn) (S : Sized fl ol 1048576) (ho : oneO o ≤ 1048576) : NewDB 36 [.agg (dV fl ol cap), .agg (oV o)] (opF fl ol cap) (opO fl ol cap o) (fallC fl ol cap) (opB fl ol cap o) := by
  cases c : diskOk fl ol cap with
  | true =>
    have e1 : opF fl ol cap = fl := by simp [opF, c]
    have e2 : opO fl ol cap o = doOl fl ol cap o := by simp [opO, c]
    have e3 : opB fl ol cap o = goB fl ol cap o := by simp [opB, c]
    have e4 : fallC fl ol cap = cap := by simp [fallC, c]
    rw [e1, e2, e3, e4]
    exact new36 fl ol cap o S ho (good_of c) c
  | false =>
    have e1 : opF fl ol cap = [] := by simp [opF, c]
    have e2 : opO fl ol cap o = [] := by simp [opO, c]
    have e3 : opB fl ol cap o = false := by simp [opB, c]
    have e4 : fallC fl ol cap = 0 := by simp [fallC, c]
    rw [e1, e2, e3, e4]
    refine calls_of_run Try.func36 rfl (by kernel_rfl) (by kernel_rfl) (by simp) 1000 ?_
    simp +contextual (maxSteps := 2000000) (disch := ((try unfold LIM at *); omega)) only [↓bcase_true, ↓bcase_false, WA, simprocAttr, wrap_i64, dV, oV]
    refine CallThen.pure (walk33 fl ol cap S.f S.o S.b S.s) 1000 ?_
    simp +contextual (maxSteps := 2000000) (disch := ((try unfold LIM at *); omega)) only [↓bcase_true, ↓bcase_false, WA, simprocAttr, wrap_i64, dV, c]
    refine Up.arr (Arr.nilV 2) (.inr ⟨_, [.agg [.sl 3 0 0 0, .z, .s (.int .i64 0)], .s (.bool false)], rfl, rfl, .inr ⟨_, _, rfl, rfl, .inr ⟨rfl, rfl⟩, .inl rfl, .inl rfl, trivial⟩, .inl rfl, trivial⟩) ?_
    refine Up.arr (Arr.nilV 3) (.inr ⟨_, [.agg [.sl 3 0 0 0, .sl 4 0 0 0, .s (.int .i64 0)], .s (.bool false)], rfl, rfl, .inr ⟨_, _, rfl, rfl, .inl rfl, .inr ⟨rfl, rfl⟩, .inl rfl, trivial⟩, .inl rfl, trivial⟩) ?_
    refine Up.gc (.tup [.agg (dO [] [] 0 0 0 1 0), .s (.bool false)]) [3, 4] (dH [] [] 0 0) (by simp) ?_ ?_ ⟨0, 0, Nat.le_refl _, Nat.le_refl _, rfl, rfl⟩
    · exact ⟨.inl ⟨rfl, rfl⟩, .inl ⟨rfl, rfl⟩, trivial⟩
    · rfl
end Go.Proofs.Ytpcgnmoogjahbaa
/- part W38 -/
set_option linter.unusedVariables false
set_option linter.unusedSimpArgs false
namespace Go.W
open Go Go.RowKit

/-! ### Ways that come together again: what follows is walked once -/
section
variable {C : Cx} {N m n0 : Nat} {Q Q' : QT} {k : List It} {τ : Tau} {h : H}
theorem WC.join {c : Code} (hc : WC C N n0 c Q τ h) (hn : ∀ τ h, Q .normal τ h → Goes n0 (fun τ' h' => Q' .normal τ' h') τ h) (ho : ∀ x τ h, x ≠ .normal → Q x τ h → Q' x τ h) : WC C N n0 c Q' τ h := by
  intro S w0 φ a w r0 r1 r2 r3 r4
  refine wp_mono (hc S w0 φ a w r0 r1 r2 r3 r4) fun e a' w' p => ?_
  obtain ⟨x, τ', h', φ', p1, p2, p3, p4, p5, p6, p7, p8⟩ := p
  cases x with
  | normal =>
    obtain ⟨τ'', h'', M, ar, ht, hI⟩ := hn _ _ p8
    obtain ⟨φ'', R'', e'', hn'', m''⟩ := ar S w0 φ' w' p2 p4
    exact ⟨.normal, τ'', h'', φ'', p1, R'', p3.trans e'', hn'', fun t => m'' _ _ _ (ht t) (p5 t), p6, p7, hI⟩
  | exit id => exact ⟨.exit id, τ', h', φ', p1, p2, p3, p4, p5, p6, p7, ho _ _ _ (by simp) p8⟩
  | ret => exact ⟨.ret, τ', h', φ', p1, p2, p3, p4, p5, p6, p7, ho _ _ _ (by simp) p8⟩
  | pan v => exact ⟨.pan v, τ', h', φ', p1, p2, p3, p4, p5, p6, p7, ho _ _ _ (by simp) p8⟩
/-- What is kept where ways come together. -/
def Joint (n0 : Nat) {ι : Type} (P : ι → Prop) (T : ι → List (Nat × V)) (Hp : ι → H) (τ : Tau) (h : H) : Prop :=
  ∃ i, P i ∧ ∃ l : List Nat, (l.Nodup ∧ l.take n0 = List.range n0) ∧ gcL (nm l h.length) h l (Hp i) ∧ keepT τ (nm l h.length) (T i)
theorem Joint.goes {ι : Type} {P : ι → Prop} {T : ι → List (Nat × V)} {Hp : ι → H} (j : Joint n0 P T Hp τ h) : Goes n0 (fun τ' h' => ∃ i, P i ∧ τ' = keepL (T i) ∧ h' = Hp i) τ h := by
  obtain ⟨i, p, l, ⟨q1, q2⟩, q3, q4⟩ := j
  exact Goes.ownN l (T i) (Hp i) q1 q2 q3 q4 ⟨i, p, rfl, rfl⟩
theorem cut_join {c : Code} {ι : Type} {P : ι → Prop} {T : ι → List (Nat × V)} {Hp : ι → H} (hk : k.all (itOk N) = true) (h1 : WC C N n0 c (loopN C N n0 m Q k (Joint n0 P T Hp)) τ h)
    (h2 : ∀ i, P i → Run C N n0 m Q k (keepL (T i)) (Hp i)) : WC C N n0 c (SemK C N n0 Q k) τ h := by
  refine WC.join h1 (fun τ h q => ?_) fun x τ' h' hx q => ?_
  · obtain ⟨τ', h', M, a, ht, i, p, rfl, rfl⟩ := Joint.goes q
    exact ⟨_, _, M, a, ht, Run_sound m Q k _ _ hk (h2 i p)⟩
  · cases x with
    | normal => exact absurd rfl hx
    | exit id =>
      refine semK_exit ?_
      simp only [loopN] at q
      cases hp : popTo id k with
      | none => rw [hp] at q; exact q
      | some k' => rw [hp] at q; exact Run_sound m Q k' τ' h' (popTo_ok hp hk) q
    | ret => exact semK_ret q
    | pan v => exact semK_pan q
theorem DrawThen.cut {id : Nat} {ops : Array Oper} {ι : Type} (P : ι → Prop) (T : ι → List (Nat × V)) (Hp : ι → H) (m : Nat) (h1 : DrawThen C N n0 (loopN C N n0 m Q k (Joint n0 P T Hp)) id ops [] τ h)
    (h2 : ∀ i, P i → Run C N n0 m Q k (keepL (T i)) (Hp i)) : DrawThen C N n0 Q id ops k τ h :=
  fun hops hk => cut_join hk (h1 hops rfl) h2
/-- The code c is walked first, by itself. -/
theorem Run.cut {c : Code} {ι : Type} (P : ι → Prop) (T : ι → List (Nat × V)) (Hp : ι → H) (m n : Nat) (hc : itOk N (.code c) = true) (hk : k.all (itOk N) = true) (h1 : Run C N n0 n (loopN C N n0 m Q k (Joint n0 P T Hp)) [.code c] τ h)
    (h2 : ∀ i, P i → Run C N n0 m Q k (keepL (T i)) (Hp i)) : SemK C N n0 Q (.code c :: k) .normal τ h := by
  refine cut_join hk ?_ h2
  exact Run_sound n _ [.code c] τ h (by simp [hc]) h1
theorem joint_of {ι : Type} {P : ι → Prop} {T : ι → List (Nat × V)} {Hp : ι → H} (i : ι) (l : List Nat) (p : P i) (hn : l.Nodup) (ht : l.take n0 = List.range n0) (hg : gcL (nm l h.length) h l (Hp i)) (hk : keepT τ (nm l h.length) (T i)) : Joint n0 P T Hp τ h :=
  ⟨i, p, l, ⟨hn, ht⟩, hg, hk⟩
end
end Go.W
/- part D34 -/
set_option linter.unusedVariables false
set_option linter.unusedSimpArgs false
set_option maxRecDepth 100000
namespace Go.Proofs.Ytpcgnmoogjahbaa
open Go Go.W Go.RowKit
theorem szO_pos {f : Opn} {left : Int} (h : 0 ≤ szO f left) : szO f left = left - oneO f := by
  have : szO f left = szF f.2 left := rfl
  rw [this] at h ⊢
  rw [szF_pos h]; unfold oneO; omega
theorem szD_le {fl : List Fl} {ol : List Opn} {left : Int} (h : 0 ≤ szD fl ol left) : szD fl ol left ≤ left := by rw [szD_pos h]; omega
theorem op_len {fl : List Fl} {ol : List Opn} {cap : Int} {o : Opn} (S : Sized fl ol 1048576) : (opF fl ol cap).length ≤ 1048576 ∧ (opO fl ol cap o).length ≤ 1048576 := by
  have this0 := S.f
  unfold opF opO doOl
  split
  · rename_i c
    have := (good_of c).late
    split
    · simp; omega
    · exact ⟨this0, by omega⟩
  · simp
theorem walk14 (fl : List Fl) (ol : List Opn) (cap : Int) (o : Opn) : PureV C 14 [.agg (dV fl ol cap), .agg (oV o)] (.s (.bool true)) := by
  refine pure_of_run Try.func14 rfl (by kernel_rfl) (by kernel_rfl) (by simp) (fun _ => rfl) (fun _ => rfl) 6 1000 ?_
  simp +contextual (maxSteps := 2000000) (disch := ((try unfold LIM at *); omega)) only [↓bcase_true, ↓bcase_false, WA, simprocAttr, wrap_i64, dV, oV]
  refine CallThen.pure (walk30 fl ol cap 1048576 (by omega) (by omega)) 1000 ?_
  by_cases c : szD fl ol 1048576 < 0
  · simp +contextual (maxSteps := 2000000) (disch := ((try unfold LIM at *); omega)) only [↓bcase_true, ↓bcase_false, WA, simprocAttr, wrap_i64, c]
  have S := sized_of (fl := fl) (ol := ol) (left := 1048576) (by omega) (by omega)
  have hf := S.f
  have ho := S.o
  have hle := szD_le (fl := fl) (ol := ol) (left := 1048576) (by omega)
  simp +contextual (maxSteps := 2000000) (disch := ((try unfold LIM at *); omega)) only [↓bcase_true, ↓bcase_false, WA, simprocAttr, wrap_i64, c]
  refine CallThen.pure (walk57 o (szD fl ol 1048576) (by omega) hle) 1000 ?_
  by_cases c' : szO o (szD fl ol 1048576) < 0
  · simp +contextual (maxSteps := 2000000) (disch := ((try unfold LIM at *); omega)) only [↓bcase_true, ↓bcase_false, WA, simprocAttr, wrap_i64, c']
  have hoo : oneO o ≤ 1048576 := by have := szO_pos (f := o) (left := szD fl ol 1048576) (by omega); omega
  simp +contextual (maxSteps := 2000000) (disch := ((try unfold LIM at *); omega)) only [↓bcase_true, ↓bcase_false, WA, simprocAttr, wrap_i64, c']
  obtain ⟨sl, so, q, bb, wS, nI, hsl, hso⟩ : ∃ sl so q bb, PureV C 37 [.agg (dV fl ol cap), .agg (oV o)] (.tup [.agg (dV sl so q), .s (.bool bb)]) ∧ NewDB 36 [.agg (dV fl ol cap), .agg (oV o)] sl so q bb ∧ sl.length ≤ 1048576 ∧ so.length ≤ 1048576 := ⟨_, _, _, _, spec37 fl ol cap o S hoo, impl36 fl ol cap o S hoo, (op_len (cap := cap) (o := o) S).1, (op_len S).2⟩
  refine DrawThen.cut (ι := Unit) (fun _ => True) (fun _ => [(2, .ptr 0 0 0), (3, .ptr 1 0 0), (6, .ptr 2 0 0), (7, .s (.bool bb))]) (fun _ => [⟨[dV fl ol cap], 3, 1, true⟩, ⟨[oV o], 3, 1, true⟩, ⟨[dV sl so q], 3, 1, true⟩]) 1000 ?_ ?_
  · skip
    refine DrawThen.of 1000 [] (.old 0 (.old 2 (.or 1 (.or 3 (.or 4 (.new 5 (.new 6 (.new 7 (.go 8 (.go 9 (.new 10 .done)))))) (.go 8 (.go 4 (.new 5 (.new 6 (.new 7 (.go 9 (.new 10 .done)))))))) (.go 8 (.go 3 (.go 4 (.new 5 (.new 6 (.new 7 (.go 9 (.new 10 .done))))))))) (.go 8 (.go 1 (.go 3 (.go 4 (.new 5 (.new 6 (.new 7 (.go 9 (.new 10 .done)))))))))))) (panFree_loopN (panFree_pure _ _ _)) (by kernel_rfl) (by kernel_rfl) (by kernel_rfl) ?_
    simp +contextual (maxSteps := 2000000) (disch := ((try unfold LIM at *); omega)) only [↓bcase_true, ↓bcase_false, WA, simprocAttr, wrap_i64, dV, oV]
    refine ⟨?_, ?_⟩
    · refine DCall.pure (walk32 fl ol cap S.f S.o) 1000 (.or 3 (.or 4 (.new 5 (.new 6 (.new 7 (.go 8 (.go 9 (.new 10 .done)))))) (.go 8 (.go 4 (.new 5 (.new 6 (.new 7 (.go 9 (.new 10 .done)))))))) (.go 8 (.go 3 (.go 4 (.new 5 (.new 6 (.new 7 (.go 9 (.new 10 .done))))))))) (by kernel_rfl) ?_
      simp +contextual (maxSteps := 2000000) (disch := ((try unfold LIM at *); omega)) only [↓bcase_true, ↓bcase_false, WA, simprocAttr, wrap_i64, dV, oV]
      refine ⟨?_, ?_⟩
      · refine DCall.pure (walk58 o) 1000 (.or 4 (.new 5 (.new 6 (.new 7 (.go 8 (.go 9 (.new 10 .done)))))) (.go 8 (.go 4 (.new 5 (.new 6 (.new 7 (.go 9 (.new 10 .done)))))))) (by kernel_rfl) ?_
        simp +contextual (maxSteps := 2000000) (disch := ((try unfold LIM at *); omega)) only [↓bcase_true, ↓bcase_false, WA, simprocAttr, wrap_i64, dV, oV]
        refine ⟨?_, ?_⟩
        · refine DCall.pure wS 1000 (.new 5 (.new 6 (.new 7 (.go 8 (.go 9 (.new 10 .done)))))) (by kernel_rfl) ?_
          simp +contextual (maxSteps := 2000000) (disch := ((try unfold LIM at *); omega)) only [↓bcase_true, ↓bcase_false, WA, simprocAttr, wrap_i64, dV, oV]
          exact joint_of () [0, 1, 2] trivial (by simp) rfl ⟨.inl ⟨rfl, rfl⟩, .inl ⟨rfl, rfl⟩, .inl ⟨rfl, rfl⟩, trivial⟩ ⟨rfl, rfl, rfl, rfl, trivial⟩
        · refine DCall.pure wS 1000 (.new 5 (.new 6 (.new 7 (.go 9 (.new 10 .done))))) (by kernel_rfl) ?_
          simp +contextual (maxSteps := 2000000) (disch := ((try unfold LIM at *); omega)) only [↓bcase_true, ↓bcase_false, WA, simprocAttr, wrap_i64, dV, oV]
          exact joint_of () [0, 1, 2] trivial (by simp) rfl ⟨.inl ⟨rfl, rfl⟩, .inl ⟨rfl, rfl⟩, .inl ⟨rfl, rfl⟩, trivial⟩ ⟨rfl, rfl, rfl, rfl, trivial⟩
      · refine DCall.pure (walk58 o) 1000 (.go 4 (.new 5 (.new 6 (.new 7 (.go 9 (.new 10 .done)))))) (by kernel_rfl) ?_
        simp +contextual (maxSteps := 2000000) (disch := ((try unfold LIM at *); omega)) only [↓bcase_true, ↓bcase_false, WA, simprocAttr, wrap_i64, dV, oV]
        refine DCall.pure wS 1000 (.new 5 (.new 6 (.new 7 (.go 9 (.new 10 .done))))) (by kernel_rfl) ?_
        simp +contextual (maxSteps := 2000000) (disch := ((try unfold LIM at *); omega)) only [↓bcase_true, ↓bcase_false, WA, simprocAttr, wrap_i64, dV, oV]
        exact joint_of () [0, 1, 2] trivial (by simp) rfl ⟨.inl ⟨rfl, rfl⟩, .inl ⟨rfl, rfl⟩, .inl ⟨rfl, rfl⟩, trivial⟩ ⟨rfl, rfl, rfl, rfl, trivial⟩
    · refine DCall.pure (walk32 fl ol cap S.f S.o) 1000 (.go 3 (.go 4 (.new 5 (.new 6 (.new 7 (.go 9 (.new 10 .done))))))) (by kernel_rfl) ?_
      simp +contextual (maxSteps := 2000000) (disch := ((try unfold LIM at *); omega)) only [↓bcase_true, ↓bcase_false, WA, simprocAttr, wrap_i64, dV, oV]
      refine DCall.pure (walk58 o) 1000 (.go 4 (.new 5 (.new 6 (.new 7 (.go 9 (.new 10 .done)))))) (by kernel_rfl) ?_
      simp +contextual (maxSteps := 2000000) (disch := ((try unfold LIM at *); omega)) only [↓bcase_true, ↓bcase_false, WA, simprocAttr, wrap_i64, dV, oV]
      refine DCall.pure wS 1000 (.new 5 (.new 6 (.new 7 (.go 9 (.new 10 .done))))) (by kernel_rfl) ?_
      simp +contextual (maxSteps := 2000000) (disch := ((try unfold LIM at *); omega)) only [↓bcase_true, ↓bcase_false, WA, simprocAttr, wrap_i64, dV, oV]
      exact joint_of () [0, 1, 2] trivial (by simp) rfl ⟨.inl ⟨rfl, rfl⟩, .inl ⟨rfl, rfl⟩, .inl ⟨rfl, rfl⟩, trivial⟩ ⟨rfl, rfl, rfl, rfl, trivial⟩
  rintro _ _
  simp +contextual (maxSteps := 2000000) (disch := ((try unfold LIM at *); omega)) only [↓bcase_true, ↓bcase_false, WA, simprocAttr, wrap_i64, dV, oV]
  refine CallThen.newD (new32 fl ol cap S.f S.o) 6 (by simp +contextual (maxSteps := 2000000) (disch := ((try unfold LIM at *); omega)) only [↓bcase_true, ↓bcase_false, WA, simprocAttr, wrap_i64, dV, frzs_f]) 1000 fun c1 c2 hc1 hc2 => ?_
  simp +contextual (maxSteps := 2000000) (disch := ((try unfold LIM at *); omega)) only [↓bcase_true, ↓bcase_false, WA, simprocAttr, wrap_i64, dO, dH]
  refine DrawThen.cut (ι := Nat × Nat) (fun p => sl.length ≤ p.1 ∧ so.length ≤ p.2) (fun _ => [(2, .ptr 0 0 0), (3, .ptr 1 0 0), (6, .ptr 2 0 0), (7, .s (.bool bb)), (8, .ptr 5 0 0), (9, .ptr 8 0 0), (10, .s (.bool bb))])
    (fun p => [⟨[dV fl ol cap], 3, 1, true⟩, ⟨[oV o], 3, 1, true⟩, ⟨[dV sl so q], 3, 1, true⟩, ⟨fl.map fV, 2, c1, true⟩, ⟨ol.map oV, 3, c2, true⟩, ⟨[dO fl ol cap 3 c1 4 c2], 3, 1, true⟩, ⟨sl.map fV, 2, p.1, true⟩, ⟨so.map oV, 3, p.2, true⟩, ⟨[dO sl so q 6 p.1 7 p.2], 3, 1, true⟩]) 1000 ?_ ?_
  · skip
    refine DrawThen.of 1000 [3, 4] (.old 0 (.old 1 (.or 2 (.or 3 (.new 4 (.new 5 (.new 6 (.go 7 (.go 8 (.new 9 .done)))))) (.go 7 (.go 3 (.new 4 (.new 5 (.new 6 (.go 8 (.new 9 .done)))))))) (.go 7 (.go 2 (.go 3 (.new 4 (.new 5 (.new 6 (.go 8 (.new 9 .done))))))))))) (panFree_loopN (panFree_pure _ _ _)) (by kernel_rfl) (by kernel_rfl) (by kernel_rfl) ?_
    simp +contextual (maxSteps := 2000000) (disch := ((try unfold LIM at *); omega)) only [↓bcase_true, ↓bcase_false, WA, simprocAttr, wrap_i64, oV, dO, dH]
    refine ⟨?_, ?_⟩
    · refine DCall.pure (walk58 o) 1000 (.or 3 (.new 4 (.new 5 (.new 6 (.go 7 (.go 8 (.new 9 .done)))))) (.go 7 (.go 3 (.new 4 (.new 5 (.new 6 (.go 8 (.new 9 .done)))))))) (by kernel_rfl) ?_
      simp +contextual (maxSteps := 2000000) (disch := ((try unfold LIM at *); omega)) only [↓bcase_true, ↓bcase_false, WA, simprocAttr, wrap_i64, oV, dO, dH]
      refine ⟨?_, ?_⟩
      · refine DCall.newDB nI 6 ?_ 1000 (.new 4 (.new 5 (.new 6 (.go 7 (.go 8 (.new 9 .done)))))) (by kernel_rfl) fun c3 c4 hc3 hc4 => ?_
        · simp +contextual (maxSteps := 2000000) (disch := ((try unfold LIM at *); omega)) only [↓bcase_true, ↓bcase_false, WA, simprocAttr, wrap_i64, dV, oV, List.length_map, own_fl, own_ol, fV_frz, oV_frz, Nat.not_lt_zero]
        simp +contextual (maxSteps := 2000000) (disch := ((try unfold LIM at *); omega)) only [↓bcase_true, ↓bcase_false, WA, simprocAttr, wrap_i64, oV, dO, dH]
        first
        | exact joint_of (c3, c4) [0, 1, 2, 3, 4, 5, 6, 7, 8] ⟨hc3, hc4⟩ (by simp) rfl ⟨.inl ⟨rfl, rfl⟩, .inl ⟨rfl, rfl⟩, .inl ⟨rfl, rfl⟩, .inl ⟨nrs_map fV_nr _, rfl⟩, .inl ⟨nrs_map oV_nr _, rfl⟩, .inr rfl, .inl ⟨nrs_map fV_nr _, rfl⟩, .inl ⟨nrs_map oV_nr _, rfl⟩, .inr rfl, trivial⟩ ⟨rfl, rfl, rfl, rfl, rfl, rfl, rfl, trivial⟩
        | exact joint_of (c3, c4) [0, 1, 2, 3, 4, 5, 7, 8, 6] ⟨hc3, hc4⟩ (by simp) rfl ⟨.inl ⟨rfl, rfl⟩, .inl ⟨rfl, rfl⟩, .inl ⟨rfl, rfl⟩, .inl ⟨nrs_map fV_nr _, rfl⟩, .inl ⟨nrs_map oV_nr _, rfl⟩, .inr rfl, .inl ⟨nrs_map fV_nr _, rfl⟩, .inl ⟨nrs_map oV_nr _, rfl⟩, .inr rfl, trivial⟩ ⟨rfl, rfl, rfl, rfl, rfl, rfl, rfl, trivial⟩
      · refine DCall.newDB nI 6 ?_ 1000 (.new 4 (.new 5 (.new 6 (.go 8 (.new 9 .done))))) (by kernel_rfl) fun c3 c4 hc3 hc4 => ?_
        · simp +contextual (maxSteps := 2000000) (disch := ((try unfold LIM at *); omega)) only [↓bcase_true, ↓bcase_false, WA, simprocAttr, wrap_i64, dV, oV, List.length_map, own_fl, own_ol, fV_frz, oV_frz, Nat.not_lt_zero]
        simp +contextual (maxSteps := 2000000) (disch := ((try unfold LIM at *); omega)) only [↓bcase_true, ↓bcase_false, WA, simprocAttr, wrap_i64, oV, dO, dH]
        first
        | exact joint_of (c3, c4) [0, 1, 2, 3, 4, 5, 6, 7, 8] ⟨hc3, hc4⟩ (by simp) rfl ⟨.inl ⟨rfl, rfl⟩, .inl ⟨rfl, rfl⟩, .inl ⟨rfl, rfl⟩, .inl ⟨nrs_map fV_nr _, rfl⟩, .inl ⟨nrs_map oV_nr _, rfl⟩, .inr rfl, .inl ⟨nrs_map fV_nr _, rfl⟩, .inl ⟨nrs_map oV_nr _, rfl⟩, .inr rfl, trivial⟩ ⟨rfl, rfl, rfl, rfl, rfl, rfl, rfl, trivial⟩
        | exact joint_of (c3, c4) [0, 1, 2, 3, 4, 5, 7, 8, 6] ⟨hc3, hc4⟩ (by simp) rfl ⟨.inl ⟨rfl, rfl⟩, .inl ⟨rfl, rfl⟩, .inl ⟨rfl, rfl⟩, .inl ⟨nrs_map fV_nr _, rfl⟩, .inl ⟨nrs_map oV_nr _, rfl⟩, .inr rfl, .inl ⟨nrs_map fV_nr _, rfl⟩, .inl ⟨nrs_map oV_nr _, rfl⟩, .inr rfl, trivial⟩ ⟨rfl, rfl, rfl, rfl, rfl, rfl, rfl, trivial⟩
    · refine DCall.pure (walk58 o) 1000 (.go 3 (.new 4 (.new 5 (.new 6 (.go 8 (.new 9 .done)))))) (by kernel_rfl) ?_
      simp +contextual (maxSteps := 2000000) (disch := ((try unfold LIM at *); omega)) only [↓bcase_true, ↓bcase_false, WA, simprocAttr, wrap_i64, oV, dO, dH]
      refine DCall.newDB nI 6 ?_ 1000 (.new 4 (.new 5 (.new 6 (.go 8 (.new 9 .done))))) (by kernel_rfl) fun c3 c4 hc3 hc4 => ?_
      · simp +contextual (maxSteps := 2000000) (disch := ((try unfold LIM at *); omega)) only [↓bcase_true, ↓bcase_false, WA, simprocAttr, wrap_i64, dV, oV, List.length_map, own_fl, own_ol, fV_frz, oV_frz, Nat.not_lt_zero]
      simp +contextual (maxSteps := 2000000) (disch := ((try unfold LIM at *); omega)) only [↓bcase_true, ↓bcase_false, WA, simprocAttr, wrap_i64, oV, dO, dH]
      first
      | exact joint_of (c3, c4) [0, 1, 2, 3, 4, 5, 6, 7, 8] ⟨hc3, hc4⟩ (by simp) rfl ⟨.inl ⟨rfl, rfl⟩, .inl ⟨rfl, rfl⟩, .inl ⟨rfl, rfl⟩, .inl ⟨nrs_map fV_nr _, rfl⟩, .inl ⟨nrs_map oV_nr _, rfl⟩, .inr rfl, .inl ⟨nrs_map fV_nr _, rfl⟩, .inl ⟨nrs_map oV_nr _, rfl⟩, .inr rfl, trivial⟩ ⟨rfl, rfl, rfl, rfl, rfl, rfl, rfl, trivial⟩
      | exact joint_of (c3, c4) [0, 1, 2, 3, 4, 5, 7, 8, 6] ⟨hc3, hc4⟩ (by simp) rfl ⟨.inl ⟨rfl, rfl⟩, .inl ⟨rfl, rfl⟩, .inl ⟨rfl, rfl⟩, .inl ⟨nrs_map fV_nr _, rfl⟩, .inl ⟨nrs_map oV_nr _, rfl⟩, .inr rfl, .inl ⟨nrs_map fV_nr _, rfl⟩, .inl ⟨nrs_map oV_nr _, rfl⟩, .inr rfl, trivial⟩ ⟨rfl, rfl, rfl, rfl, rfl, rfl, rfl, trivial⟩
  rintro ⟨c3, c4⟩ ⟨hc3, hc4⟩
  simp only at hc3 hc4
  simp +contextual (maxSteps := 2000000) (disch := ((try unfold LIM at *); omega)) only [↓bcase_true, ↓bcase_false, WA, simprocAttr, wrap_i64, dV, oV, dO]
  refine CallThen.borrow (walk34 sl so q sl so q) (flat_s _) 6 ?_ 1000 ?_
  · simp +contextual (maxSteps := 2000000) (disch := ((try unfold LIM at *); omega)) only [↓bcase_true, ↓bcase_false, WA, simprocAttr, wrap_i64, dV, List.length_map, own_fl, own_ol, fV_frz, oV_frz, Nat.not_lt_zero]
  simp +contextual (maxSteps := 2000000) (disch := ((try unfold LIM at *); omega)) only [↓bcase_true, ↓bcase_false, WA, simprocAttr, wrap_i64, and_self, bne_self_eq_false]
  refine DrawThen.of 1000 [3, 4] (.old 0 (.old 1 (.go 2 (.go 3 (.new 4 .done))))) (panFree_pure _ _ _) (by kernel_rfl) (by kernel_rfl) (by kernel_rfl) ?_
  simp +contextual (maxSteps := 2000000) (disch := ((try unfold LIM at *); omega)) only [↓bcase_true, ↓bcase_false, WA, simprocAttr, wrap_i64]
  refine DCall.pure (walk32 fl ol cap S.f S.o) 1000 (.go 3 (.new 4 .done)) (by kernel_rfl) ?_
  simp +contextual (maxSteps := 2000000) (disch := ((try unfold LIM at *); omega)) only [↓bcase_true, ↓bcase_false, WA, simprocAttr, wrap_i64, dV]
  refine DCall.borrow (walk34 fl ol cap fl ol cap) (flat_s _) 6 ?_ 1000 (.new 4 .done) (by kernel_rfl) ?_
  · simp +contextual (maxSteps := 2000000) (disch := ((try unfold LIM at *); omega)) only [↓bcase_true, ↓bcase_false, WA, simprocAttr, wrap_i64, dV, List.length_map, own_fl, own_ol, fV_frz, oV_frz, Nat.not_lt_zero]
  simp +contextual (maxSteps := 2000000) (disch := ((try unfold LIM at *); omega)) only [↓bcase_true, ↓bcase_false, WA, simprocAttr, wrap_i64, and_self]
  refine CallThen.edit (walk51 fl ol cap 1 c1 c2 S.f S.o hc1 hc2 (by omega) (by omega)) [3, 4] (by simp) ⟨.inl ⟨nrs_map fV_nr _, rfl⟩, .inl ⟨nrs_map oV_nr _, rfl⟩, trivial⟩ rfl 1000 ?_
  have p1 : ¬ (1 + 2 * (fl.length : Int) + 3 * (ol.length : Int) < 0) := by omega
  simp +contextual (maxSteps := 2000000) (disch := ((try unfold LIM at *); omega)) only [↓bcase_true, ↓bcase_false, WA, simprocAttr, wrap_i64, WB8, dH, p1]
  refine CallThen.borrow (walk34 sl so q sl so q) (flat_s _) 6 ?_ 1000 ?_
  · simp +contextual (maxSteps := 2000000) (disch := ((try unfold LIM at *); omega)) only [↓bcase_true, ↓bcase_false, WA, simprocAttr, wrap_i64, dV, List.length_map, own_fl, own_ol, fV_frz, oV_frz, Nat.not_lt_zero]
  simp +contextual (maxSteps := 2000000) (disch := ((try unfold LIM at *); omega)) only [↓bcase_true, ↓bcase_false, WA, simprocAttr, wrap_i64, WB8, and_self, bne_self_eq_false]
  refine CallThen.edit (walk51 sl so q 1 c3 c4 hsl hso hc3 hc4 (by omega) (by omega)) [6, 7] (by simp) ⟨.inl ⟨nrs_map fV_nr _, rfl⟩, .inl ⟨nrs_map oV_nr _, rfl⟩, trivial⟩ rfl 1000 ?_
  have p2 : ¬ (1 + 2 * (sl.length : Int) + 3 * (so.length : Int) < 0) := by omega
  simp +contextual (maxSteps := 2000000) (disch := ((try unfold LIM at *); omega)) only [↓bcase_true, ↓bcase_false, WA, simprocAttr, wrap_i64, WB8, dH]
  refine CallThen.borrow (walk55 q 1 sl.length so.length hsl hso (by omega) (by omega)) (flat_s _) 6 ?_ 1000 ?_
  · simp +contextual (maxSteps := 2000000) (disch := ((try unfold LIM at *); omega)) only [↓bcase_true, ↓bcase_false, WA, simprocAttr, wrap_i64, dV, List.length_map, fV_frz, oV_frz, Nat.not_lt_zero, markF_len, markF_take, markO_len, markO_take]
  simp +contextual (maxSteps := 2000000) (disch := ((try unfold LIM at *); omega)) only [↓bcase_true, ↓bcase_false, WA, simprocAttr, wrap_i64, WB8, p2, bne_self_eq_false]
  refine DrawThen.cut (ι := Nat × Nat) (fun p => sl.length ≤ p.1 ∧ so.length ≤ p.2) (fun p => [(6, .ptr 1 0 0), (7, .s (.bool bb)), (9, .ptr 4 0 0), (12, .s (.int .i64 (1 + 2 * (sl.length : Int) + 3 * (so.length : Int)))), (14, .ptr 7 0 0), (15, .s (.bool bb))])
    (fun p => [⟨[dV fl ol cap], 3, 1, true⟩, ⟨[dV sl so q], 3, 1, true⟩, ⟨(markF 1 sl.length).map fV, 2, c3, true⟩, ⟨(markO (1 + 2 * (sl.length : Int)) so.length).map oV, 3, c4, true⟩, ⟨[dO sl so q 2 c3 3 c4], 3, 1, true⟩, ⟨sl.map fV, 2, p.1, true⟩, ⟨so.map oV, 3, p.2, true⟩, ⟨[dO sl so q 5 p.1 6 p.2], 3, 1, true⟩]) 1000 ?_ ?_
  · skip
    refine DrawThen.of 1000 [] (.old 0 (.old 2 (.or 1 (.or 3 (.or 4 (.new 5 (.new 6 (.new 7 (.go 8 (.go 9 (.new 10 .done)))))) (.go 8 (.go 4 (.new 5 (.new 6 (.new 7 (.go 9 (.new 10 .done)))))))) (.go 8 (.go 3 (.go 4 (.new 5 (.new 6 (.new 7 (.go 9 (.new 10 .done))))))))) (.go 8 (.go 1 (.go 3 (.go 4 (.new 5 (.new 6 (.new 7 (.go 9 (.new 10 .done)))))))))))) (panFree_loopN (panFree_pure _ _ _)) (by kernel_rfl) (by kernel_rfl) (by kernel_rfl) ?_
    simp +contextual (maxSteps := 2000000) (disch := ((try unfold LIM at *); omega)) only [↓bcase_true, ↓bcase_false, WA, simprocAttr, wrap_i64, dV, oV, dO, dH]
    refine ⟨?_, ?_⟩
    · refine DCall.pure (walk32 fl ol cap S.f S.o) 1000 (.or 3 (.or 4 (.new 5 (.new 6 (.new 7 (.go 8 (.go 9 (.new 10 .done)))))) (.go 8 (.go 4 (.new 5 (.new 6 (.new 7 (.go 9 (.new 10 .done)))))))) (.go 8 (.go 3 (.go 4 (.new 5 (.new 6 (.new 7 (.go 9 (.new 10 .done))))))))) (by kernel_rfl) ?_
      simp +contextual (maxSteps := 2000000) (disch := ((try unfold LIM at *); omega)) only [↓bcase_true, ↓bcase_false, WA, simprocAttr, wrap_i64, dV, oV, dO, dH]
      refine ⟨?_, ?_⟩
      · refine DCall.pure (walk58 o) 1000 (.or 4 (.new 5 (.new 6 (.new 7 (.go 8 (.go 9 (.new 10 .done)))))) (.go 8 (.go 4 (.new 5 (.new 6 (.new 7 (.go 9 (.new 10 .done)))))))) (by kernel_rfl) ?_
        simp +contextual (maxSteps := 2000000) (disch := ((try unfold LIM at *); omega)) only [↓bcase_true, ↓bcase_false, WA, simprocAttr, wrap_i64, dV, oV, dO, dH]
        refine ⟨?_, ?_⟩
        · refine DCall.newDB nI 6 ?_ 1000 (.new 5 (.new 6 (.new 7 (.go 8 (.go 9 (.new 10 .done)))))) (by kernel_rfl) fun c5 c6 hc5 hc6 => ?_
          · simp +contextual (maxSteps := 2000000) (disch := ((try unfold LIM at *); omega)) only [↓bcase_true, ↓bcase_false, WA, simprocAttr, wrap_i64, dV, oV, List.length_map, own_fl, own_ol, fV_frz, oV_frz, Nat.not_lt_zero]
          simp +contextual (maxSteps := 2000000) (disch := ((try unfold LIM at *); omega)) only [↓bcase_true, ↓bcase_false, WA, simprocAttr, wrap_i64, dV, oV, dO, dH]
          first
          | exact joint_of (c5, c6) [0, 2, 6, 7, 8, 9, 10, 11] ⟨hc5, hc6⟩ (by simp) rfl ⟨.inl ⟨rfl, rfl⟩, .inl ⟨rfl, rfl⟩, .inl ⟨nrs_map fV_nr _, rfl⟩, .inl ⟨nrs_map oV_nr _, rfl⟩, .inr rfl, .inl ⟨nrs_map fV_nr _, rfl⟩, .inl ⟨nrs_map oV_nr _, rfl⟩, .inr rfl, trivial⟩ ⟨rfl, rfl, rfl, rfl, rfl, rfl, trivial⟩
          | exact joint_of (c5, c6) [0, 2, 6, 7, 8, 10, 11, 9] ⟨hc5, hc6⟩ (by simp) rfl ⟨.inl ⟨rfl, rfl⟩, .inl ⟨rfl, rfl⟩, .inl ⟨nrs_map fV_nr _, rfl⟩, .inl ⟨nrs_map oV_nr _, rfl⟩, .inr rfl, .inl ⟨nrs_map fV_nr _, rfl⟩, .inl ⟨nrs_map oV_nr _, rfl⟩, .inr rfl, trivial⟩ ⟨rfl, rfl, rfl, rfl, rfl, rfl, trivial⟩
        · refine DCall.newDB nI 6 ?_ 1000 (.new 5 (.new 6 (.new 7 (.go 9 (.new 10 .done))))) (by kernel_rfl) fun c5 c6 hc5 hc6 => ?_
          · simp +contextual (maxSteps := 2000000) (disch := ((try unfold LIM at *); omega)) only [↓bcase_true, ↓bcase_false, WA, simprocAttr, wrap_i64, dV, oV, List.length_map, own_fl, own_ol, fV_frz, oV_frz, Nat.not_lt_zero]
          simp +contextual (maxSteps := 2000000) (disch := ((try unfold LIM at *); omega)) only [↓bcase_true, ↓bcase_false, WA, simprocAttr, wrap_i64, dV, oV, dO, dH]
          first
          | exact joint_of (c5, c6) [0, 2, 6, 7, 8, 9, 10, 11] ⟨hc5, hc6⟩ (by simp) rfl ⟨.inl ⟨rfl, rfl⟩, .inl ⟨rfl, rfl⟩, .inl ⟨nrs_map fV_nr _, rfl⟩, .inl ⟨nrs_map oV_nr _, rfl⟩, .inr rfl, .inl ⟨nrs_map fV_nr _, rfl⟩, .inl ⟨nrs_map oV_nr _, rfl⟩, .inr rfl, trivial⟩ ⟨rfl, rfl, rfl, rfl, rfl, rfl, trivial⟩
          | exact joint_of (c5, c6) [0, 2, 6, 7, 8, 10, 11, 9] ⟨hc5, hc6⟩ (by simp) rfl ⟨.inl ⟨rfl, rfl⟩, .inl ⟨rfl, rfl⟩, .inl ⟨nrs_map fV_nr _, rfl⟩, .inl ⟨nrs_map oV_nr _, rfl⟩, .inr rfl, .inl ⟨nrs_map fV_nr _, rfl⟩, .inl ⟨nrs_map oV_nr _, rfl⟩, .inr rfl, trivial⟩ ⟨rfl, rfl, rfl, rfl, rfl, rfl, trivial⟩
      · refine DCall.pure (walk58 o) 1000 (.go 4 (.new 5 (.new 6 (.new 7 (.go 9 (.new 10 .done)))))) (by kernel_rfl) ?_
        simp +contextual (maxSteps := 2000000) (disch := ((try unfold LIM at *); omega)) only [↓bcase_true, ↓bcase_false, WA, simprocAttr, wrap_i64, dV, oV, dO, dH]
        refine DCall.newDB nI 6 ?_ 1000 (.new 5 (.new 6 (.new 7 (.go 9 (.new 10 .done))))) (by kernel_rfl) fun c5 c6 hc5 hc6 => ?_
        · simp +contextual (maxSteps := 2000000) (disch := ((try unfold LIM at *); omega)) only [↓bcase_true, ↓bcase_false, WA, simprocAttr, wrap_i64, dV, oV, List.length_map, own_fl, own_ol, fV_frz, oV_frz, Nat.not_lt_zero]
        simp +contextual (maxSteps := 2000000) (disch := ((try unfold LIM at *); omega)) only [↓bcase_true, ↓bcase_false, WA, simprocAttr, wrap_i64, dV, oV, dO, dH]
        first
        | exact joint_of (c5, c6) [0, 2, 6, 7, 8, 9, 10, 11] ⟨hc5, hc6⟩ (by simp) rfl ⟨.inl ⟨rfl, rfl⟩, .inl ⟨rfl, rfl⟩, .inl ⟨nrs_map fV_nr _, rfl⟩, .inl ⟨nrs_map oV_nr _, rfl⟩, .inr rfl, .inl ⟨nrs_map fV_nr _, rfl⟩, .inl ⟨nrs_map oV_nr _, rfl⟩, .inr rfl, trivial⟩ ⟨rfl, rfl, rfl, rfl, rfl, rfl, trivial⟩
        | exact joint_of (c5, c6) [0, 2, 6, 7, 8, 10, 11, 9] ⟨hc5, hc6⟩ (by simp) rfl ⟨.inl ⟨rfl, rfl⟩, .inl ⟨rfl, rfl⟩, .inl ⟨nrs_map fV_nr _, rfl⟩, .inl ⟨nrs_map oV_nr _, rfl⟩, .inr rfl, .inl ⟨nrs_map fV_nr _, rfl⟩, .inl ⟨nrs_map oV_nr _, rfl⟩, .inr rfl, trivial⟩ ⟨rfl, rfl, rfl, rfl, rfl, rfl, trivial⟩
    · refine DCall.pure (walk32 fl ol cap S.f S.o) 1000 (.go 3 (.go 4 (.new 5 (.new 6 (.new 7 (.go 9 (.new 10 .done))))))) (by kernel_rfl) ?_
      simp +contextual (maxSteps := 2000000) (disch := ((try unfold LIM at *); omega)) only [↓bcase_true, ↓bcase_false, WA, simprocAttr, wrap_i64, dV, oV, dO, dH]
      refine DCall.pure (walk58 o) 1000 (.go 4 (.new 5 (.new 6 (.new 7 (.go 9 (.new 10 .done)))))) (by kernel_rfl) ?_
      simp +contextual (maxSteps := 2000000) (disch := ((try unfold LIM at *); omega)) only [↓bcase_true, ↓bcase_false, WA, simprocAttr, wrap_i64, dV, oV, dO, dH]
      refine DCall.newDB nI 6 ?_ 1000 (.new 5 (.new 6 (.new 7 (.go 9 (.new 10 .done))))) (by kernel_rfl) fun c5 c6 hc5 hc6 => ?_
      · simp +contextual (maxSteps := 2000000) (disch := ((try unfold LIM at *); omega)) only [↓bcase_true, ↓bcase_false, WA, simprocAttr, wrap_i64, dV, oV, List.length_map, own_fl, own_ol, fV_frz, oV_frz, Nat.not_lt_zero]
      simp +contextual (maxSteps := 2000000) (disch := ((try unfold LIM at *); omega)) only [↓bcase_true, ↓bcase_false, WA, simprocAttr, wrap_i64, dV, oV, dO, dH]
      first
      | exact joint_of (c5, c6) [0, 2, 6, 7, 8, 9, 10, 11] ⟨hc5, hc6⟩ (by simp) rfl ⟨.inl ⟨rfl, rfl⟩, .inl ⟨rfl, rfl⟩, .inl ⟨nrs_map fV_nr _, rfl⟩, .inl ⟨nrs_map oV_nr _, rfl⟩, .inr rfl, .inl ⟨nrs_map fV_nr _, rfl⟩, .inl ⟨nrs_map oV_nr _, rfl⟩, .inr rfl, trivial⟩ ⟨rfl, rfl, rfl, rfl, rfl, rfl, trivial⟩
      | exact joint_of (c5, c6) [0, 2, 6, 7, 8, 10, 11, 9] ⟨hc5, hc6⟩ (by simp) rfl ⟨.inl ⟨rfl, rfl⟩, .inl ⟨rfl, rfl⟩, .inl ⟨nrs_map fV_nr _, rfl⟩, .inl ⟨nrs_map oV_nr _, rfl⟩, .inr rfl, .inl ⟨nrs_map fV_nr _, rfl⟩, .inl ⟨nrs_map oV_nr _, rfl⟩, .inr rfl, trivial⟩ ⟨rfl, rfl, rfl, rfl, rfl, rfl, trivial⟩
  rintro ⟨c5, c6⟩ ⟨hc5, hc6⟩
  simp only at hc5 hc6
  simp +contextual (maxSteps := 2000000) (disch := ((try unfold LIM at *); omega)) only [↓bcase_true, ↓bcase_false, WA, simprocAttr, wrap_i64, dV, oV, dO]
  refine CallThen.borrow (walk34 sl so q sl so q) (flat_s _) 6 ?_ 1000 ?_
  · simp +contextual (maxSteps := 2000000) (disch := ((try unfold LIM at *); omega)) only [↓bcase_true, ↓bcase_false, WA, simprocAttr, wrap_i64, dV, List.length_map, own_fl, own_ol, fV_frz, oV_frz, Nat.not_lt_zero]
  simp +contextual (maxSteps := 2000000) (disch := ((try unfold LIM at *); omega)) only [↓bcase_true, ↓bcase_false, WA, simprocAttr, wrap_i64, and_self, bne_self_eq_false]
  refine CallThen.borrow (walk55 q 1 sl.length so.length hsl hso (by omega) (by omega)) (flat_s _) 6 ?_ 1000 ?_
  · simp +contextual (maxSteps := 2000000) (disch := ((try unfold LIM at *); omega)) only [↓bcase_true, ↓bcase_false, WA, simprocAttr, wrap_i64, dV, List.length_map, fV_frz, oV_frz, Nat.not_lt_zero, markF_len, markF_take, markO_len, markO_take]
  simp +contextual (maxSteps := 2000000) (disch := ((try unfold LIM at *); omega)) only [↓bcase_true, ↓bcase_false, WA, simprocAttr, wrap_i64, WB8, p2, bne_self_eq_false]
end Go.Proofs.Ytpcgnmoogjahbaa
/- part BD -/
set_option linter.unusedVariables false
set_option maxRecDepth 100000
namespace Go.Proofs.Ytpcgnmoogjahbaa
open Go Go.W Go.RowKit
theorem own0 : ownKnob Try.prog.godebug = none := by kernel_rfl
theorem laidOut0 : laidOutB Try.prog = true := by kernel_rfl
section
variable {H' : Type} {enc : TypeId × Value → H'} {W : World}
theorem c9 : Try.prog.cellsOf 9 = 1 := by kernel_rfl
theorem c3 : Try.prog.cellsOf 3 = 1 := by kernel_rfl
theorem c43 : Try.prog.cellsOf 43 = 1 := by kernel_rfl
theorem c44 : Try.prog.cellsOf 44 = 1 := by kernel_rfl
theorem opn_fl : Go.W.Opn enc Try.prog W 126 fun xs => ∃ f : Fl, xs = fV f := by
  refine (opn_struct (gs := [fun xs => ∃ s, xs = [.s (.string s)], fun xs => ∃ s, xs = [.s (.string s)]]) Try.underlying126 (by kernel_rfl) ⟨rfl, opn_str Try.underlying9, by simp only [c9], opn_str Try.underlying9, rfl⟩).mono fun xs g => ?_
  obtain ⟨_, _, rfl, ⟨s, rfl⟩, _, _, rfl, ⟨s', rfl⟩, rfl⟩ := g
  exact ⟨(s, s'), rfl⟩
theorem opn_op : Go.W.Opn enc Try.prog W 86 fun xs => ∃ o : Opn, xs = oV o := by
  refine (opn_struct (gs := [fun xs => ∃ n, xs = [.s (.int .i64 n)] ∧ (Lit.int .i64 n).wf = true, fun xs => ∃ s, xs = [.s (.string s)], fun xs => ∃ s, xs = [.s (.string s)]]) Try.underlying86 (by kernel_rfl) ⟨rfl, opn_int Try.underlying3, by simp only [c3], opn_str Try.underlying9, by simp only [c3, c9], opn_str Try.underlying9, rfl⟩).mono fun xs g => ?_
  obtain ⟨_, _, rfl, ⟨k, rfl, _⟩, _, _, rfl, ⟨s, rfl⟩, _, _, rfl, ⟨s', rfl⟩, rfl⟩ := g
  exact ⟨(k, s, s'), rfl⟩
theorem opn_disk : Go.W.Opn enc Try.prog W 46 fun xs => ∃ fl ol cap, xs = dV fl ol cap := by
  have e1 : Go.W.Opn enc Try.prog W 43 fun xs => ∃ els, xs = [.f 2 els] ∧ ∀ el ∈ els, ∃ f : Fl, el = fV f := opn_slice (n := 1) Try.underlying43 (by kernel_rfl) opn_fl
  have e2 : Go.W.Opn enc Try.prog W 44 fun xs => ∃ els, xs = [.f 3 els] ∧ ∀ el ∈ els, ∃ o : Opn, el = oV o := opn_slice (n := 2) Try.underlying44 (by kernel_rfl) opn_op
  refine (opn_struct (gs := [_, _, _]) Try.underlying46 (by kernel_rfl) ⟨rfl, e1, by simp only [c43], e2, by simp only [c43, c44], opn_int Try.underlying3, rfl⟩).mono fun xs g => ?_
  obtain ⟨_, _, rfl, ⟨els, rfl, h1⟩, _, _, rfl, ⟨els', rfl, h2⟩, _, _, rfl, ⟨n, rfl, _⟩, rfl⟩ := g
  obtain ⟨fl, rfl⟩ := map_of h1
  obtain ⟨ol, rfl⟩ := map_of h2
  exact ⟨fl, ol, n, rfl⟩
end
end Go.Proofs.Ytpcgnmoogjahbaa
