/- What functions of the program answer, walked on the abstract layer, and closed facts of the program; the conditions stand in each theorem. -/
import Derived.Test.YtpcgnmoogjahbaaG4
/- part D25 -/
set_option linter.unusedVariables false
set_option linter.unusedSimpArgs false
set_option maxRecDepth 100000
namespace Go.Proofs.Ytpcgnmoogjahbaa
open Go Go.W Go.RowKit
/-- A disk whose slices are one's own. -/
def dO (fl : List Fl) (ol : List Opn) (cap : Int) (b1 c1 b2 c2 : Nat) : List V := [.sl b1 0 fl.length c1, .sl b2 0 ol.length c2, .s (.int .i64 cap)]
def dH (fl : List Fl) (ol : List Opn) (c1 c2 : Nat) : Go.W.H := [⟨fl.map fV, 2, c1, true⟩, ⟨ol.map oV, 3, c2, true⟩]
def NewD (f : Nat) (args : List V) (fl : List Fl) (ol : List Opn) (cap : Int) : Prop :=
  CallsV C f args [] fun res h' => ∃ c1 c2, fl.length ≤ c1 ∧ ol.length ≤ c2 ∧ res = .ret (.agg (dO fl ol cap 0 c1 1 c2)) ∧ h' = dH fl ol c1 c2
theorem NewD.at_ {f : Nat} {args args' : List V} {fl : List Fl} {ol : List Opn} {cap : Int} (p : NewD f args fl ol cap) (d : Nat) (H : Go.W.H) (ha : args = args'.map (frz 0 d H)) :
    CallsV C f args' H fun res h' => ∃ c1 c2, fl.length ≤ c1 ∧ ol.length ≤ c2 ∧ res = .ret (.agg (dO fl ol cap H.length c1 (H.length + 1) c2)) ∧ h' = H ++ dH fl ol c1 c2 := by
  refine (CallsV.lend p ?_ d H ha).mono fun res h' ⟨r, h1, ⟨c1, c2, q1, q2, q3, q4⟩, q5, q6⟩ => ⟨c1, c2, q1, q2, ?_, by rw [q6, q4]⟩
  · rintro r h' ⟨c1, c2, q1, q2, rfl, rfl⟩
    exact ⟨rfl, by simp [dH, plains_map fV_plain, plains_map oV_plain]⟩
  · rw [q5, q3]; rfl
theorem CallThen.newD {N n0 : Nat} {Q : QT} {k : List It} {τ : Tau} {h : Go.W.H} {f : Nat} {args args' : List V} {fl : List Fl} {ol : List Opn} {cap : Int} {d : Option Nat} (p : NewD f args fl ol cap) (dd : Nat) (ha : args = args'.map (frz 0 dd h)) (m : Nat)
    (hr : ∀ c1 c2, fl.length ≤ c1 → ol.length ≤ c2 → Run C N n0 m Q k (upo d (.agg (dO fl ol cap h.length c1 (h.length + 1) c2)) τ) (h ++ dH fl ol c1 c2)) : CallThen C N n0 Q f args' d k τ h :=
  CallThen.of m (p.at_ dd h ha) fun res h' ⟨c1, c2, e1, e2, e3, e4⟩ => by subst e3; subst e4; exact hr c1 c2 e1 e2
theorem new32 (fl : List Fl) (ol : List Opn) (cap : Int) (hf : fl.length ≤ 1048576) (ho : ol.length ≤ 1048576) : NewD 32 [.agg (dV fl ol cap)] fl ol cap := by
  refine calls_of_run Try.func32 rfl (by kernel_rfl) (by kernel_rfl) (by simp) 1000 ?_
  simp +contextual (maxSteps := 2000000) (disch := ((try unfold LIM at *); omega)) only [↓bcase_true, ↓bcase_false, WA, simprocAttr, wrap_i64, dV]
  refine CallThen.new (new72 fl hf) (nrs_map fV_nr _) (fun _ => rfl) 1000 fun c1 hc1 => ?_
  rw [List.length_map] at hc1
  simp +contextual (maxSteps := 2000000) (disch := ((try unfold LIM at *); omega)) only [↓bcase_true, ↓bcase_false, WA, simprocAttr, wrap_i64, dV]
  refine CallThen.new (new73 ol ho) (nrs_map oV_nr _) (fun _ => rfl) 1000 fun c2 hc2 => ?_
  rw [List.length_map] at hc2
  simp +contextual (maxSteps := 2000000) (disch := ((try unfold LIM at *); omega)) only [↓bcase_true, ↓bcase_false, WA, simprocAttr, wrap_i64, dV, List.length_map]
  refine Up.gc (.agg (dO fl ol cap 0 c1 1 c2)) [3, 4] (dH fl ol c1 c2) (by simp) ?_ ?_ ⟨c1, c2, hc1, hc2, rfl, rfl⟩
  · exact ⟨.inl ⟨nrs_map fV_nr _, rfl⟩, .inl ⟨nrs_map oV_nr _, rfl⟩, trivial⟩
  · rfl
theorem walk51 (fl : List Fl) (ol : List Opn) (cap k : Int) (c1 c2 : Nat) (hf : fl.length ≤ 1048576) (ho : ol.length ≤ 1048576) (hc1 : fl.length ≤ c1) (hc2 : ol.length ≤ c2) (h0 : 0 ≤ k) (h1 : k ≤ 900000000) :
    EditV C 51 [.agg (dO fl ol cap 0 c1 1 c2), .s (.int .i64 k)] (dH fl ol c1 c2) (.s (.int .i64 (k + 2 * fl.length + 3 * ol.length))) (dH (markF k fl.length) (markO (k + 2 * fl.length) ol.length) c1 c2) := by
  refine ⟨fun _ => rfl, by simp [dH, nrs_map fV_nr, nrs_map oV_nr], ?_⟩
  refine calls_of_run Try.func51 rfl (by kernel_rfl) (by kernel_rfl) (by simp) 1000 ?_
  simp +contextual (maxSteps := 2000000) (disch := ((try unfold LIM at *); omega)) only [↓bcase_true, ↓bcase_false, WA, simprocAttr, wrap_i64, dO, dH]
  refine CallThen.edit (walk52 fl k c1 hf hc1 h0 (by omega)) [0] (by simp) ⟨.inl ⟨nrs_map fV_nr _, rfl⟩, trivial⟩ rfl 1000 ?_
  simp +contextual (maxSteps := 2000000) (disch := ((try unfold LIM at *); omega)) only [↓bcase_true, ↓bcase_false, WA, simprocAttr, wrap_i64, WB8]
  refine CallThen.edit (walk99 ol (k + 2 * fl.length) c2 ho hc2 (by omega) (by omega)) [1] (by simp) ⟨.inl ⟨nrs_map oV_nr _, rfl⟩, trivial⟩ rfl 1000 ?_
  simp +contextual (maxSteps := 2000000) (disch := ((try unfold LIM at *); omega)) only [↓bcase_true, ↓bcase_false, WA, simprocAttr, wrap_i64, WB8]
  exact Up.keep (dH (markF k fl.length) (markO (k + 2 * fl.length) ol.length) c1 c2) (fun _ => rfl) rfl (by show gcL _ _ [0, 1] _; exact ⟨.inl ⟨nrs_map fV_nr _, rfl⟩, .inl ⟨nrs_map oV_nr _, rfl⟩, trivial⟩) ⟨rfl, rfl⟩
theorem walk55 (cap k : Int) (n m : Nat) (hf : n ≤ 1048576) (ho : m ≤ 1048576) (h0 : 0 ≤ k) (h1 : k ≤ 900000000) :
    PureV C 55 [.agg (dV (markF k n) (markO (k + 2 * n) m) cap), .s (.int .i64 k)] (.s (.int .i64 (k + 2 * n + 3 * m))) := by
  refine pure_of_run Try.func55 rfl (by kernel_rfl) (by kernel_rfl) (by simp) (fun _ => rfl) (fun _ => rfl) 6 1000 ?_
  simp +contextual (maxSteps := 2000000) (disch := ((try unfold LIM at *); omega)) only [↓bcase_true, ↓bcase_false, WA, simprocAttr, wrap_i64, dV]
  refine CallThen.pure (walk53 k n hf h0 (by omega)) 1000 ?_
  have p1 : ¬ (k + 2 * (n : Int) < 0) := by omega
  simp +contextual (maxSteps := 2000000) (disch := ((try unfold LIM at *); omega)) only [↓bcase_true, ↓bcase_false, WA, simprocAttr, wrap_i64, dV, p1]
  refine CallThen.pure (walk101 (k + 2 * n) m ho (by omega) (by omega)) 1000 ?_
  have p2 : ¬ (k + 2 * (n : Int) + 3 * (m : Int) < 0) := by omega
  simp +contextual (maxSteps := 2000000) (disch := ((try unfold LIM at *); omega)) only [↓bcase_true, ↓bcase_false, WA, simprocAttr, wrap_i64, dV, p2]
theorem new39 (fl : List Fl) (ol : List Opn) (cap : Int) (S : Sized fl ol 1048576) : NewV C 39 [.agg (dV fl ol cap)] 2 ((seeD fl ol cap).map fV) := by
  refine calls_of_run Try.func39 rfl (by kernel_rfl) (by kernel_rfl) (by simp) 1000 ?_
  simp +contextual (maxSteps := 2000000) (disch := ((try unfold LIM at *); omega)) only [↓bcase_true, ↓bcase_false, WA, simprocAttr, wrap_i64, dV]
  refine CallThen.pure (walk33 fl ol cap S.f S.o S.b S.s) 1000 ?_
  cases c : diskOk fl ol cap with
  | true =>
    have e : seeD fl ol cap = seeS fl ol ol.length := by simp [seeD, c]
    rw [e]
    simp +contextual (maxSteps := 2000000) (disch := ((try unfold LIM at *); omega)) only [↓bcase_true, ↓bcase_false, WA, simprocAttr, wrap_i64, dV]
    refine CallThen.new (walk87 fl ol cap (good_of c) S.s) (nrs_map fV_nr _) (fun _ => rfl) 1000 fun cp hc => ?_
    rw [List.length_map] at hc
    simp +contextual (maxSteps := 2000000) (disch := ((try unfold LIM at *); omega)) only [↓bcase_true, ↓bcase_false, WA, simprocAttr, wrap_i64, List.length_map]
    exact Up.fresh (b := 1) rfl (nrs_map fV_nr _) ⟨cp, hc, rfl, rfl⟩
  | false =>
    have e : seeD fl ol cap = [] := by simp [seeD, c]
    rw [e]
    simp +contextual (maxSteps := 2000000) (disch := ((try unfold LIM at *); omega)) only [↓bcase_true, ↓bcase_false, WA, simprocAttr, wrap_i64, dV]
    exact Up.nil 2 ⟨0, Nat.le_refl _, rfl, rfl⟩
end Go.Proofs.Ytpcgnmoogjahbaa
/- part D26 -/
set_option linter.unusedVariables false
set_option linter.unusedSimpArgs false
set_option maxRecDepth 100000
namespace Go.Proofs.Ytpcgnmoogjahbaa
open Go Go.W Go.RowKit
theorem own_fl {l : List Fl} {cap : Nat} : elsOf 0 l.length (some ⟨l.map fV, 2, cap, true⟩) = some (l.map fV) := by simp [elsOf, List.take_of_length_le]
theorem own_ol {l : List Opn} {cap : Nat} : elsOf 0 l.length (some ⟨l.map oV, 3, cap, true⟩) = some (l.map oV) := by simp [elsOf, List.take_of_length_le]
theorem markF_take (k : Int) (n : Nat) : List.take n ((markF k n).map fV) = (markF k n).map fV := List.take_of_length_le (by simp [markF_len])
theorem markO_take (k : Int) (n : Nat) : List.take n ((markO k n).map oV) = (markO k n).map oV := List.take_of_length_le (by simp [markO_len])
theorem see_len {fl : List Fl} {ol : List Opn} {cap : Int} : (seeD fl ol cap).length ≤ 20 := by
  unfold seeD; split
  · rename_i c; exact ((good_of c).size _).1
  · simp
theorem walk11 (fl : List Fl) (ol : List Opn) (cap : Int) : PureV C 11 [.agg (dV fl ol cap)] (.s (.bool true)) := by
  refine pure_of_run Try.func11 rfl (by kernel_rfl) (by kernel_rfl) (by simp) (fun _ => rfl) (fun _ => rfl) 6 1000 ?_
  simp +contextual (maxSteps := 2000000) (disch := ((try unfold LIM at *); omega)) only [↓bcase_true, ↓bcase_false, WA, simprocAttr, wrap_i64, dV]
  refine CallThen.pure (walk30 fl ol cap 1048576 (by omega) (by omega)) 1000 ?_
  by_cases c : szD fl ol 1048576 < 0
  · simp +contextual (maxSteps := 2000000) (disch := ((try unfold LIM at *); omega)) only [↓bcase_true, ↓bcase_false, WA, simprocAttr, wrap_i64, c]
  have S := sized_of (fl := fl) (ol := ol) (left := 1048576) (by omega) (by omega)
  simp +contextual (maxSteps := 2000000) (disch := ((try unfold LIM at *); omega)) only [↓bcase_true, ↓bcase_false, WA, simprocAttr, wrap_i64, c]
  refine CallThen.pure (walk32 fl ol cap S.f S.o) 1000 ?_
  simp +contextual (maxSteps := 2000000) (disch := ((try unfold LIM at *); omega)) only [↓bcase_true, ↓bcase_false, WA, simprocAttr, wrap_i64]
  refine CallThen.pure (walk46 fl ol cap S) 1000 ?_
  simp +contextual (maxSteps := 2000000) (disch := ((try unfold LIM at *); omega)) only [↓bcase_true, ↓bcase_false, WA, simprocAttr, wrap_i64, dV]
  refine CallThen.newD (new32 fl ol cap S.f S.o) 6 (by simp +contextual (maxSteps := 2000000) (disch := ((try unfold LIM at *); omega)) only [↓bcase_true, ↓bcase_false, WA, simprocAttr, wrap_i64, dV, frzs_f]) 1000 fun c1 c2 hc1 hc2 => ?_
  simp +contextual (maxSteps := 2000000) (disch := ((try unfold LIM at *); omega)) only [↓bcase_true, ↓bcase_false, WA, simprocAttr, wrap_i64, dO, dH]
  refine CallThen.newB (new39 fl ol cap S) (plains_map fV_plain _) 6 ?_ 1000 fun c3 hc3 => ?_
  · simp +contextual (maxSteps := 2000000) (disch := ((try unfold LIM at *); omega)) only [↓bcase_true, ↓bcase_false, WA, simprocAttr, wrap_i64, dV, List.length_map, own_fl, own_ol, fV_frz, oV_frz, Nat.not_lt_zero]
  rw [List.length_map] at hc3
  generalize hs : seeD fl ol cap = sl at *
  have sl20 : sl.length ≤ 20 := hs ▸ see_len
  simp +contextual (maxSteps := 2000000) (disch := ((try unfold LIM at *); omega)) only [↓bcase_true, ↓bcase_false, WA, simprocAttr, wrap_i64, List.length_map]
  refine CallThen.borrow (walk50 sl sl) (flat_s _) 6 ?_ 1000 ?_
  · simp +contextual (maxSteps := 2000000) (disch := ((try unfold LIM at *); omega)) only [↓bcase_true, ↓bcase_false, WA, simprocAttr, wrap_i64, List.length_map, fV_frz, Nat.not_lt_zero, own_fl]
  simp +contextual (maxSteps := 2000000) (disch := ((try unfold LIM at *); omega)) only [↓bcase_true, ↓bcase_false, WA, simprocAttr, wrap_i64]
  refine DrawThen.of 1000 [1, 2] (.old 0 (.old 1 (.go 2 (.go 3 (.new 4 .done))))) (panFree_pure _ _ _) (by kernel_rfl) (by kernel_rfl) (by kernel_rfl) ?_
  simp +contextual (maxSteps := 2000000) (disch := ((try unfold LIM at *); omega)) only [↓bcase_true, ↓bcase_false, WA, simprocAttr, wrap_i64]
  refine DCall.pure (walk32 fl ol cap S.f S.o) 1000 (.go 3 (.new 4 .done)) (by kernel_rfl) ?_
  simp +contextual (maxSteps := 2000000) (disch := ((try unfold LIM at *); omega)) only [↓bcase_true, ↓bcase_false, WA, simprocAttr, wrap_i64, dV]
  refine DCall.borrow (walk34 fl ol cap fl ol cap) (flat_s _) 6 ?_ 1000 (.new 4 .done) (by kernel_rfl) ?_
  · simp +contextual (maxSteps := 2000000) (disch := ((try unfold LIM at *); omega)) only [↓bcase_true, ↓bcase_false, WA, simprocAttr, wrap_i64, dV, List.length_map, own_fl, own_ol, fV_frz, oV_frz, Nat.not_lt_zero]
  simp +contextual (maxSteps := 2000000) (disch := ((try unfold LIM at *); omega)) only [↓bcase_true, ↓bcase_false, WA, simprocAttr, wrap_i64, and_self]
  refine CallThen.edit (walk51 fl ol cap 1 c1 c2 S.f S.o hc1 hc2 (by omega) (by omega)) [1, 2] (by simp) ⟨.inl ⟨nrs_map fV_nr _, rfl⟩, .inl ⟨nrs_map oV_nr _, rfl⟩, trivial⟩ rfl 1000 ?_
  have hf := S.f
  have ho := S.o
  have p1 : ¬ (1 + 2 * (fl.length : Int) + 3 * (ol.length : Int) < 0) := by omega
  simp +contextual (maxSteps := 2000000) (disch := ((try unfold LIM at *); omega)) only [↓bcase_true, ↓bcase_false, WA, simprocAttr, wrap_i64, WB8, dH, p1]
  refine CallThen.borrow (walk50 sl sl) (flat_s _) 6 ?_ 1000 ?_
  · simp +contextual (maxSteps := 2000000) (disch := ((try unfold LIM at *); omega)) only [↓bcase_true, ↓bcase_false, WA, simprocAttr, wrap_i64, List.length_map, fV_frz, Nat.not_lt_zero, own_fl]
  simp +contextual (maxSteps := 2000000) (disch := ((try unfold LIM at *); omega)) only [↓bcase_true, ↓bcase_false, WA, simprocAttr, wrap_i64, WB8]
  refine CallThen.edit (walk52 sl 1 c3 (by omega) hc3 (by omega) (by omega)) [4] (by simp) ⟨.inl ⟨nrs_map fV_nr _, rfl⟩, trivial⟩ rfl 1000 ?_
  simp +contextual (maxSteps := 2000000) (disch := ((try unfold LIM at *); omega)) only [↓bcase_true, ↓bcase_false, WA, simprocAttr, wrap_i64, WB8]
  have hm : ∀ cap, elsOf 0 sl.length (some ⟨(markF 1 sl.length).map fV, 2, cap, true⟩) = some ((markF 1 sl.length).map fV) := fun cap => by simp [elsOf, List.take_of_length_le, markF_len]
  refine CallThen.borrow (walk53 1 sl.length (by omega) (by omega) (by omega)) (flat_s _) 6 ?_ 1000 ?_
  · simp +contextual (maxSteps := 2000000) (disch := ((try unfold LIM at *); omega)) only [↓bcase_true, ↓bcase_false, WA, simprocAttr, wrap_i64, List.length_map, fV_frz, Nat.not_lt_zero, markF_len, markF_take]
  have p2 : ¬ (1 + 2 * (sl.length : Int) < 0) := by omega
  simp +contextual (maxSteps := 2000000) (disch := ((try unfold LIM at *); omega)) only [↓bcase_true, ↓bcase_false, WA, simprocAttr, wrap_i64, WB8, p2, bne_self_eq_false]
  refine CallThen.pure (walk32 fl ol cap S.f S.o) 1000 ?_
  simp +contextual (maxSteps := 2000000) (disch := ((try unfold LIM at *); omega)) only [↓bcase_true, ↓bcase_false, WA, simprocAttr, wrap_i64, WB8]
  have n39 := new39 fl ol cap S
  rw [hs] at n39
  refine CallThen.new n39 (nrs_map fV_nr _) (fun _ => rfl) 1000 fun c4 hc4 => ?_
  rw [List.length_map] at hc4
  simp +contextual (maxSteps := 2000000) (disch := ((try unfold LIM at *); omega)) only [↓bcase_true, ↓bcase_false, WA, simprocAttr, wrap_i64, WB8, List.length_map]
  refine CallThen.borrow (walk50 sl sl) (flat_s _) 6 ?_ 1000 ?_
  · simp +contextual (maxSteps := 2000000) (disch := ((try unfold LIM at *); omega)) only [↓bcase_true, ↓bcase_false, WA, simprocAttr, wrap_i64, List.length_map, fV_frz, Nat.not_lt_zero, own_fl]
  simp +contextual (maxSteps := 2000000) (disch := ((try unfold LIM at *); omega)) only [↓bcase_true, ↓bcase_false, WA, simprocAttr, wrap_i64, WB8]
  refine CallThen.borrow (walk53 1 sl.length (by omega) (by omega) (by omega)) (flat_s _) 6 ?_ 1000 ?_
  · simp +contextual (maxSteps := 2000000) (disch := ((try unfold LIM at *); omega)) only [↓bcase_true, ↓bcase_false, WA, simprocAttr, wrap_i64, List.length_map, fV_frz, Nat.not_lt_zero, markF_len, markF_take]
  simp +contextual (maxSteps := 2000000) (disch := ((try unfold LIM at *); omega)) only [↓bcase_true, ↓bcase_false, WA, simprocAttr, wrap_i64, WB8, p2, bne_self_eq_false]
end Go.Proofs.Ytpcgnmoogjahbaa
/- part D27 -/
set_option linter.unusedVariables false
set_option linter.unusedSimpArgs false
set_option maxRecDepth 100000
namespace Go.Proofs.Ytpcgnmoogjahbaa
open Go Go.W Go.RowKit
def fallF (fl : List Fl) (ol : List Opn) (cap keep : Int) : List Fl := if diskOk fl ol cap = true then seeS fl ol keep.toNat else []
def fallC (fl : List Fl) (ol : List Opn) (cap : Int) : Int := if diskOk fl ol cap = true then cap else 0
theorem wk_dV (fl : List Fl) (cap : Int) : WkV (.agg [.f 2 (fl.map fV), .z, .s (.int .i64 cap)]) (.agg (dV fl [] cap)) := wkV_agg ⟨wkC_refl _, wkC_z 3, wkC_refl _, trivial⟩
theorem wk_dV0 : WkV (.agg [.z, .z, .s (.int .i64 0)]) (.agg (dV [] [] 0)) := wkV_agg ⟨wkC_z 2, wkC_z 3, wkC_refl _, trivial⟩
theorem walk54 (fl : List Fl) (ol : List Opn) (cap keep : Int) (S : Sized fl ol 1048576) : PureV C 54 [.agg (dV fl ol cap), .s (.int .i64 keep)] (.agg (dV (fallF fl ol cap keep) [] (fallC fl ol cap))) := by
  cases c : diskOk fl ol cap with
  | true =>
    have e1 : fallF fl ol cap keep = seeS fl ol keep.toNat := by simp [fallF, c]
    have e2 : fallC fl ol cap = cap := by simp [fallC, c]
    rw [e1, e2]
    refine PureV.weak ?_ (wk_dV _ _) (fun _ => rfl)
    refine pure_of_run Try.func54 rfl (by kernel_rfl) (by kernel_rfl) (by simp) (fun _ => rfl) (fun _ => rfl) 6 1000 ?_
    simp +contextual (maxSteps := 2000000) (disch := ((try unfold LIM at *); omega)) only [↓bcase_true, ↓bcase_false, WA, simprocAttr, wrap_i64, dV]
    refine CallThen.pure (walk31 fl ol cap S.f S.o S.b S.s) 1000 ?_
    simp +contextual (maxSteps := 2000000) (disch := ((try unfold LIM at *); omega)) only [↓bcase_true, ↓bcase_false, WA, simprocAttr, wrap_i64, dV, c]
    refine DrawThen.of 1000 [1] (.old 0 (.old 1 (.old 2 (.old 3 (.old 4 (.old 6 (.old 7 (.go 5 (.new 8 (.go 9 .done)))))))))) (panFree_pure _ _ _) (by kernel_rfl) (by kernel_rfl) (by kernel_rfl) ?_
    simp +contextual (maxSteps := 2000000) (disch := ((try unfold LIM at *); omega)) only [↓bcase_true, ↓bcase_false, WA, simprocAttr, wrap_i64]
    refine DCall.pure (walk100 fl ol cap keep (good_of c) S.s) 1000 (.new 8 (.go 9 .done)) (by kernel_rfl) ?_
    simp +contextual (maxSteps := 2000000) (disch := ((try unfold LIM at *); omega)) only [↓bcase_true, ↓bcase_false, WA, simprocAttr, wrap_i64]
  | false =>
    have e1 : fallF fl ol cap keep = [] := by simp [fallF, c]
    have e2 : fallC fl ol cap = 0 := by simp [fallC, c]
    rw [e1, e2]
    refine PureV.weak ?_ wk_dV0 (fun _ => rfl)
    refine pure_of_run Try.func54 rfl (by kernel_rfl) (by kernel_rfl) (by simp) (fun _ => rfl) (fun _ => rfl) 6 1000 ?_
    simp +contextual (maxSteps := 2000000) (disch := ((try unfold LIM at *); omega)) only [↓bcase_true, ↓bcase_false, WA, simprocAttr, wrap_i64, dV]
    refine CallThen.pure (walk31 fl ol cap S.f S.o S.b S.s) 1000 ?_
    simp +contextual (maxSteps := 2000000) (disch := ((try unfold LIM at *); omega)) only [↓bcase_true, ↓bcase_false, WA, simprocAttr, wrap_i64, dV, c]
theorem new96 (fl : List Fl) (ol : List Opn) (cap keep : Int) (g : Good fl ol cap) (hs : ∀ o ∈ ol, oneO o ≤ 1048576) : NewD 96 [.agg (dV fl ol cap), .s (.int .i64 keep)] (seeS fl ol keep.toNat) [] cap := by
  refine calls_of_run Try.func96 rfl (by kernel_rfl) (by kernel_rfl) (by simp) 1000 ?_
  simp +contextual (maxSteps := 2000000) (disch := ((try unfold LIM at *); omega)) only [↓bcase_true, ↓bcase_false, WA, simprocAttr, wrap_i64, dV]
  refine DrawThen.of 1000 [1] (.old 0 (.old 1 (.old 2 (.old 3 (.old 4 (.old 5 (.old 6 (.old 8 (.old 9 (.go 7 (.new 10 (.go 11 .done)))))))))))) (panFree_body _ _) (by kernel_rfl) (by kernel_rfl) (by kernel_rfl) ?_
  have hk : (if (ol.length : Int) < (if keep < 0 then 0 else keep) then (ol.length : Int) else if keep < 0 then 0 else keep) = ((min keep.toNat ol.length : Nat) : Int) := by
    split <;> split at * <;> omega
  have hse : seeS fl ol (min keep.toNat ol.length) = seeS fl ol keep.toNat := by
    by_cases q : keep.toNat ≤ ol.length
    · rw [Nat.min_eq_left q]
    · rw [Nat.min_eq_right (by omega), see_all (i := keep.toNat) (by omega)]
  have hs118 := walk118 fl ol cap (min keep.toNat ol.length) (Nat.min_le_right _ _) g hs
  rw [hse] at hs118
  simp +contextual (maxSteps := 2000000) (disch := ((try unfold LIM at *); omega)) only [↓bcase_true, ↓bcase_false, WA, simprocAttr, wrap_i64, dV, List.length_map, hk]
  intro _
  refine DCall.new hs118 (nrs_map fV_nr _) (fun _ => rfl) 1000 (.new 10 (.go 11 .done)) (by kernel_rfl) fun cp hc => ?_
  rw [List.length_map] at hc
  simp +contextual (maxSteps := 2000000) (disch := ((try unfold LIM at *); omega)) only [↓bcase_true, ↓bcase_false, WA, simprocAttr, wrap_i64, dV, List.length_map]
  refine Up.arr (Arr.nilV 3) (.inl (.inr ⟨_, [.sl 2 0 (seeS fl ol keep.toNat).length cp, .sl 3 0 0 0, .s (.int .i64 cap)], rfl, rfl, .inl rfl, .inr ⟨rfl, rfl⟩, .inl rfl, trivial⟩)) ?_
  refine Up.gc (.agg (dO (seeS fl ol keep.toNat) [] cap 0 cp 1 0)) [2, 3] (dH (seeS fl ol keep.toNat) [] cp 0) (by simp) ?_ ?_ ⟨cp, 0, hc, Nat.le_refl _, rfl, rfl⟩
  · exact ⟨.inl ⟨nrs_map fV_nr _, rfl⟩, .inl ⟨rfl, rfl⟩, trivial⟩
  · rfl
theorem new47 (fl : List Fl) (ol : List Opn) (cap keep : Int) (S : Sized fl ol 1048576) : NewD 47 [.agg (dV fl ol cap), .s (.int .i64 keep)] (fallF fl ol cap keep) [] (fallC fl ol cap) := by
  refine calls_of_run Try.func47 rfl (by kernel_rfl) (by kernel_rfl) (by simp) 1000 ?_
  simp +contextual (maxSteps := 2000000) (disch := ((try unfold LIM at *); omega)) only [↓bcase_true, ↓bcase_false, WA, simprocAttr, wrap_i64, dV]
  refine CallThen.pure (walk33 fl ol cap S.f S.o S.b S.s) 1000 ?_
  cases c : diskOk fl ol cap with
  | true =>
    have e1 : fallF fl ol cap keep = seeS fl ol keep.toNat := by simp [fallF, c]
    have e2 : fallC fl ol cap = cap := by simp [fallC, c]
    rw [e1, e2]
    simp +contextual (maxSteps := 2000000) (disch := ((try unfold LIM at *); omega)) only [↓bcase_true, ↓bcase_false, WA, simprocAttr, wrap_i64, dV]
    refine CallThen.newD (new96 fl ol cap keep (good_of c) S.s) 6 (by simp +contextual (maxSteps := 2000000) (disch := ((try unfold LIM at *); omega)) only [↓bcase_true, ↓bcase_false, WA, simprocAttr, wrap_i64, dV, frzs_f]) 1000 fun c1 c2 hc1 hc2 => ?_
    simp +contextual (maxSteps := 2000000) (disch := ((try unfold LIM at *); omega)) only [↓bcase_true, ↓bcase_false, WA, simprocAttr, wrap_i64, dO, dH]
    refine Up.gc (.agg (dO (seeS fl ol keep.toNat) [] cap 0 c1 1 c2)) [2, 3] (dH (seeS fl ol keep.toNat) [] c1 c2) (by simp) ?_ ?_ ⟨c1, c2, hc1, hc2, rfl, rfl⟩
    · exact ⟨.inl ⟨nrs_map fV_nr _, rfl⟩, .inl ⟨rfl, rfl⟩, trivial⟩
    · rfl
  | false =>
    have e1 : fallF fl ol cap keep = [] := by simp [fallF, c]
    have e2 : fallC fl ol cap = 0 := by simp [fallC, c]
    rw [e1, e2]
    simp +contextual (maxSteps := 2000000) (disch := ((try unfold LIM at *); omega)) only [↓bcase_true, ↓bcase_false, WA, simprocAttr, wrap_i64, dV]
    refine Up.arr (Arr.nilV 2) (.inl (.inr ⟨_, [.sl 2 0 0 0, .z, .s (.int .i64 0)], rfl, rfl, .inr ⟨rfl, rfl⟩, .inl rfl, .inl rfl, trivial⟩)) ?_
    refine Up.arr (Arr.nilV 3) (.inl (.inr ⟨_, [.sl 2 0 0 0, .sl 3 0 0 0, .s (.int .i64 0)], rfl, rfl, .inl rfl, .inr ⟨rfl, rfl⟩, .inl rfl, trivial⟩)) ?_
    refine Up.gc (.agg (dO [] [] 0 0 0 1 0)) [2, 3] (dH [] [] 0 0) (by simp) ?_ ?_ ⟨0, 0, Nat.le_refl _, Nat.le_refl _, rfl, rfl⟩
    · exact ⟨.inl ⟨rfl, rfl⟩, .inl ⟨rfl, rfl⟩, trivial⟩
    · rfl
end Go.Proofs.Ytpcgnmoogjahbaa
/- part D28 -/
set_option linter.unusedVariables false
set_option linter.unusedSimpArgs false
set_option maxRecDepth 100000
namespace Go.Proofs.Ytpcgnmoogjahbaa
open Go Go.W Go.RowKit
theorem fall_len {fl : List Fl} {ol : List Opn} {cap keep : Int} : (fallF fl ol cap keep).length ≤ 20 := by
  unfold fallF; split
  · rename_i c; exact ((good_of c).size _).1
  · simp
theorem walk12 (fl : List Fl) (ol : List Opn) (cap : Int) (keep : Int) : PureV C 12 [.agg (dV fl ol cap), .s (.int .i64 keep)] (.s (.bool true)) := by
  refine pure_of_run Try.func12 rfl (by kernel_rfl) (by kernel_rfl) (by simp) (fun _ => rfl) (fun _ => rfl) 6 1000 ?_
  simp +contextual (maxSteps := 2000000) (disch := ((try unfold LIM at *); omega)) only [↓bcase_true, ↓bcase_false, WA, simprocAttr, wrap_i64, dV]
  refine CallThen.pure (walk30 fl ol cap 1048576 (by omega) (by omega)) 1000 ?_
  by_cases c : szD fl ol 1048576 < 0
  · simp +contextual (maxSteps := 2000000) (disch := ((try unfold LIM at *); omega)) only [↓bcase_true, ↓bcase_false, WA, simprocAttr, wrap_i64, c]
  have S := sized_of (fl := fl) (ol := ol) (left := 1048576) (by omega) (by omega)
  have hf := S.f
  have ho := S.o
  simp +contextual (maxSteps := 2000000) (disch := ((try unfold LIM at *); omega)) only [↓bcase_true, ↓bcase_false, WA, simprocAttr, wrap_i64, c]
  refine CallThen.pure (walk32 fl ol cap S.f S.o) 1000 ?_
  simp +contextual (maxSteps := 2000000) (disch := ((try unfold LIM at *); omega)) only [↓bcase_true, ↓bcase_false, WA, simprocAttr, wrap_i64]
  obtain ⟨sl, so, q, wS, nI, hsl, hso⟩ : ∃ sl so q, PureV C 54 [.agg (dV fl ol cap), .s (.int .i64 keep)] (.agg (dV sl so q)) ∧ NewD 47 [.agg (dV fl ol cap), .s (.int .i64 keep)] sl so q ∧ sl.length ≤ 1048576 ∧ so.length ≤ 1048576 := ⟨_, _, _, (walk54 fl ol cap keep S), (new47 fl ol cap keep S), by have := fall_len (fl := fl) (ol := ol) (cap := cap) (keep := keep); omega, by simp⟩
  refine CallThen.pure wS 1000 ?_
  simp +contextual (maxSteps := 2000000) (disch := ((try unfold LIM at *); omega)) only [↓bcase_true, ↓bcase_false, WA, simprocAttr, wrap_i64, dV]
  refine CallThen.newD (new32 fl ol cap S.f S.o) 6 (by simp +contextual (maxSteps := 2000000) (disch := ((try unfold LIM at *); omega)) only [↓bcase_true, ↓bcase_false, WA, simprocAttr, wrap_i64, dV, frzs_f]) 1000 fun c1 c2 hc1 hc2 => ?_
  simp +contextual (maxSteps := 2000000) (disch := ((try unfold LIM at *); omega)) only [↓bcase_true, ↓bcase_false, WA, simprocAttr, wrap_i64, dO, dH]
  refine CallThen.newD nI 6 ?_ 1000 fun c3 c4 hc3 hc4 => ?_
  · simp +contextual (maxSteps := 2000000) (disch := ((try unfold LIM at *); omega)) only [↓bcase_true, ↓bcase_false, WA, simprocAttr, wrap_i64, dV, List.length_map, own_fl, own_ol, fV_frz, oV_frz, Nat.not_lt_zero]
  simp +contextual (maxSteps := 2000000) (disch := ((try unfold LIM at *); omega)) only [↓bcase_true, ↓bcase_false, WA, simprocAttr, wrap_i64, dO, dH]
  refine CallThen.borrow (walk34 sl so q sl so q) (flat_s _) 6 ?_ 1000 ?_
  · simp +contextual (maxSteps := 2000000) (disch := ((try unfold LIM at *); omega)) only [↓bcase_true, ↓bcase_false, WA, simprocAttr, wrap_i64, dV, List.length_map, own_fl, own_ol, fV_frz, oV_frz, Nat.not_lt_zero]
  simp +contextual (maxSteps := 2000000) (disch := ((try unfold LIM at *); omega)) only [↓bcase_true, ↓bcase_false, WA, simprocAttr, wrap_i64, and_self]
  refine DrawThen.of 1000 [2, 3] (.old 0 (.old 1 (.go 2 (.go 3 (.new 4 .done))))) (panFree_pure _ _ _) (by kernel_rfl) (by kernel_rfl) (by kernel_rfl) ?_
  simp +contextual (maxSteps := 2000000) (disch := ((try unfold LIM at *); omega)) only [↓bcase_true, ↓bcase_false, WA, simprocAttr, wrap_i64]
  refine DCall.pure (walk32 fl ol cap S.f S.o) 1000 (.go 3 (.new 4 .done)) (by kernel_rfl) ?_
  simp +contextual (maxSteps := 2000000) (disch := ((try unfold LIM at *); omega)) only [↓bcase_true, ↓bcase_false, WA, simprocAttr, wrap_i64, dV]
  refine DCall.borrow (walk34 fl ol cap fl ol cap) (flat_s _) 6 ?_ 1000 (.new 4 .done) (by kernel_rfl) ?_
  · simp +contextual (maxSteps := 2000000) (disch := ((try unfold LIM at *); omega)) only [↓bcase_true, ↓bcase_false, WA, simprocAttr, wrap_i64, dV, List.length_map, own_fl, own_ol, fV_frz, oV_frz, Nat.not_lt_zero]
  simp +contextual (maxSteps := 2000000) (disch := ((try unfold LIM at *); omega)) only [↓bcase_true, ↓bcase_false, WA, simprocAttr, wrap_i64, and_self]
  refine CallThen.edit (walk51 fl ol cap 1 c1 c2 S.f S.o hc1 hc2 (by omega) (by omega)) [2, 3] (by simp) ⟨.inl ⟨nrs_map fV_nr _, rfl⟩, .inl ⟨nrs_map oV_nr _, rfl⟩, trivial⟩ rfl 1000 ?_
  have p1 : ¬ (1 + 2 * (fl.length : Int) + 3 * (ol.length : Int) < 0) := by omega
  simp +contextual (maxSteps := 2000000) (disch := ((try unfold LIM at *); omega)) only [↓bcase_true, ↓bcase_false, WA, simprocAttr, wrap_i64, WB8, dH, p1]
  refine CallThen.borrow (walk34 sl so q sl so q) (flat_s _) 6 ?_ 1000 ?_
  · simp +contextual (maxSteps := 2000000) (disch := ((try unfold LIM at *); omega)) only [↓bcase_true, ↓bcase_false, WA, simprocAttr, wrap_i64, dV, List.length_map, own_fl, own_ol, fV_frz, oV_frz, Nat.not_lt_zero]
  simp +contextual (maxSteps := 2000000) (disch := ((try unfold LIM at *); omega)) only [↓bcase_true, ↓bcase_false, WA, simprocAttr, wrap_i64, WB8, and_self]
  refine CallThen.edit (walk51 sl so q 1 c3 c4 hsl hso hc3 hc4 (by omega) (by omega)) [5, 6] (by simp) ⟨.inl ⟨nrs_map fV_nr _, rfl⟩, .inl ⟨nrs_map oV_nr _, rfl⟩, trivial⟩ rfl 1000 ?_
  have p2 : ¬ (1 + 2 * (sl.length : Int) + 3 * (so.length : Int) < 0) := by omega
  simp +contextual (maxSteps := 2000000) (disch := ((try unfold LIM at *); omega)) only [↓bcase_true, ↓bcase_false, WA, simprocAttr, wrap_i64, WB8, dH]
  refine CallThen.borrow (walk55 q 1 sl.length so.length hsl hso (by omega) (by omega)) (flat_s _) 6 ?_ 1000 ?_
  · simp +contextual (maxSteps := 2000000) (disch := ((try unfold LIM at *); omega)) only [↓bcase_true, ↓bcase_false, WA, simprocAttr, wrap_i64, dV, List.length_map, fV_frz, oV_frz, Nat.not_lt_zero, markF_len, markF_take, markO_len, markO_take]
  simp +contextual (maxSteps := 2000000) (disch := ((try unfold LIM at *); omega)) only [↓bcase_true, ↓bcase_false, WA, simprocAttr, wrap_i64, WB8, p2, bne_self_eq_false]
  refine CallThen.pure (walk32 fl ol cap S.f S.o) 1000 ?_
  simp +contextual (maxSteps := 2000000) (disch := ((try unfold LIM at *); omega)) only [↓bcase_true, ↓bcase_false, WA, simprocAttr, wrap_i64, WB8, dV]
  refine CallThen.newD nI 6 ?_ 1000 fun c5 c6 hc5 hc6 => ?_
  · simp +contextual (maxSteps := 2000000) (disch := ((try unfold LIM at *); omega)) only [↓bcase_true, ↓bcase_false, WA, simprocAttr, wrap_i64, dV, frzs_f]
  simp +contextual (maxSteps := 2000000) (disch := ((try unfold LIM at *); omega)) only [↓bcase_true, ↓bcase_false, WA, simprocAttr, wrap_i64, WB8, dO, dH]
  refine CallThen.borrow (walk34 sl so q sl so q) (flat_s _) 6 ?_ 1000 ?_
  · simp +contextual (maxSteps := 2000000) (disch := ((try unfold LIM at *); omega)) only [↓bcase_true, ↓bcase_false, WA, simprocAttr, wrap_i64, dV, List.length_map, own_fl, own_ol, fV_frz, oV_frz, Nat.not_lt_zero]
  simp +contextual (maxSteps := 2000000) (disch := ((try unfold LIM at *); omega)) only [↓bcase_true, ↓bcase_false, WA, simprocAttr, wrap_i64, WB8, and_self]
  refine CallThen.borrow (walk55 q 1 sl.length so.length hsl hso (by omega) (by omega)) (flat_s _) 6 ?_ 1000 ?_
  · simp +contextual (maxSteps := 2000000) (disch := ((try unfold LIM at *); omega)) only [↓bcase_true, ↓bcase_false, WA, simprocAttr, wrap_i64, dV, List.length_map, fV_frz, oV_frz, Nat.not_lt_zero, markF_len, markF_take, markO_len, markO_take]
  simp +contextual (maxSteps := 2000000) (disch := ((try unfold LIM at *); omega)) only [↓bcase_true, ↓bcase_false, WA, simprocAttr, wrap_i64, WB8, p2, bne_self_eq_false]
end Go.Proofs.Ytpcgnmoogjahbaa
/- part D29 -/
set_option linter.unusedVariables false
set_option linter.unusedSimpArgs false
set_option maxRecDepth 100000
namespace Go.Proofs.Ytpcgnmoogjahbaa
open Go Go.W Go.RowKit
theorem walk56 (fl : List Fl) (ol : List Opn) (cap : Int) (S : Sized fl ol 1048576) : PureV C 56 [.agg (dV fl ol cap)] (.agg (dV (seeD fl ol cap) [] (fallC fl ol cap))) := by
  cases c : diskOk fl ol cap with
  | true =>
    have e1 : seeD fl ol cap = seeS fl ol ol.length := by simp [seeD, c]
    have e2 : fallC fl ol cap = cap := by simp [fallC, c]
    rw [e1, e2]
    refine PureV.weak ?_ (wk_dV _ _) (fun _ => rfl)
    refine pure_of_run Try.func56 rfl (by kernel_rfl) (by kernel_rfl) (by simp) (fun _ => rfl) (fun _ => rfl) 6 1000 ?_
    simp +contextual (maxSteps := 2000000) (disch := ((try unfold LIM at *); omega)) only [↓bcase_true, ↓bcase_false, WA, simprocAttr, wrap_i64, dV]
    refine CallThen.pure (walk31 fl ol cap S.f S.o S.b S.s) 1000 ?_
    simp +contextual (maxSteps := 2000000) (disch := ((try unfold LIM at *); omega)) only [↓bcase_true, ↓bcase_false, WA, simprocAttr, wrap_i64, dV, c]
    refine DrawThen.of 1000 [1] (.old 0 (.old 2 (.old 3 (.go 1 (.new 4 (.go 5 .done)))))) (panFree_pure _ _ _) (by kernel_rfl) (by kernel_rfl) (by kernel_rfl) ?_
    simp +contextual (maxSteps := 2000000) (disch := ((try unfold LIM at *); omega)) only [↓bcase_true, ↓bcase_false, WA, simprocAttr, wrap_i64]
    refine DCall.pure (walk86 fl ol cap (good_of c) S.s) 1000 (.new 4 (.go 5 .done)) (by kernel_rfl) ?_
    simp +contextual (maxSteps := 2000000) (disch := ((try unfold LIM at *); omega)) only [↓bcase_true, ↓bcase_false, WA, simprocAttr, wrap_i64]
  | false =>
    have e1 : seeD fl ol cap = [] := by simp [seeD, c]
    have e2 : fallC fl ol cap = 0 := by simp [fallC, c]
    rw [e1, e2]
    refine PureV.weak ?_ wk_dV0 (fun _ => rfl)
    refine pure_of_run Try.func56 rfl (by kernel_rfl) (by kernel_rfl) (by simp) (fun _ => rfl) (fun _ => rfl) 6 1000 ?_
    simp +contextual (maxSteps := 2000000) (disch := ((try unfold LIM at *); omega)) only [↓bcase_true, ↓bcase_false, WA, simprocAttr, wrap_i64, dV]
    refine CallThen.pure (walk31 fl ol cap S.f S.o S.b S.s) 1000 ?_
    simp +contextual (maxSteps := 2000000) (disch := ((try unfold LIM at *); omega)) only [↓bcase_true, ↓bcase_false, WA, simprocAttr, wrap_i64, dV, c]
theorem new48 (fl : List Fl) (ol : List Opn) (cap : Int) (S : Sized fl ol 1048576) : NewD 48 [.agg (dV fl ol cap)] (seeD fl ol cap) [] (fallC fl ol cap) := by
  refine calls_of_run Try.func48 rfl (by kernel_rfl) (by kernel_rfl) (by simp) 1000 ?_
  simp +contextual (maxSteps := 2000000) (disch := ((try unfold LIM at *); omega)) only [↓bcase_true, ↓bcase_false, WA, simprocAttr, wrap_i64, dV]
  refine CallThen.pure (walk33 fl ol cap S.f S.o S.b S.s) 1000 ?_
  cases c : diskOk fl ol cap with
  | true =>
    have e1 : seeD fl ol cap = seeS fl ol ol.length := by simp [seeD, c]
    have e2 : fallC fl ol cap = cap := by simp [fallC, c]
    rw [e1, e2]
    have ho := S.o
    have n96 := new96 fl ol cap ol.length (good_of c) S.s
    rw [Int.toNat_natCast] at n96
    simp +contextual (maxSteps := 2000000) (disch := ((try unfold LIM at *); omega)) only [↓bcase_true, ↓bcase_false, WA, simprocAttr, wrap_i64, dV, List.length_map]
    intro _
    refine CallThen.newD n96 6 (by simp +contextual (maxSteps := 2000000) (disch := ((try unfold LIM at *); omega)) only [↓bcase_true, ↓bcase_false, WA, simprocAttr, wrap_i64, dV, frzs_f]) 1000 fun c1 c2 hc1 hc2 => ?_
    simp +contextual (maxSteps := 2000000) (disch := ((try unfold LIM at *); omega)) only [↓bcase_true, ↓bcase_false, WA, simprocAttr, wrap_i64, dO, dH]
    refine Up.gc (.agg (dO (seeS fl ol ol.length) [] cap 0 c1 1 c2)) [2, 3] (dH (seeS fl ol ol.length) [] c1 c2) (by simp) ?_ ?_ ⟨c1, c2, hc1, hc2, rfl, rfl⟩
    · exact ⟨.inl ⟨nrs_map fV_nr _, rfl⟩, .inl ⟨rfl, rfl⟩, trivial⟩
    · rfl
  | false =>
    have e1 : seeD fl ol cap = [] := by simp [seeD, c]
    have e2 : fallC fl ol cap = 0 := by simp [fallC, c]
    rw [e1, e2]
    simp +contextual (maxSteps := 2000000) (disch := ((try unfold LIM at *); omega)) only [↓bcase_true, ↓bcase_false, WA, simprocAttr, wrap_i64, dV]
    refine Up.arr (Arr.nilV 2) (.inl (.inr ⟨_, [.sl 2 0 0 0, .z, .s (.int .i64 0)], rfl, rfl, .inr ⟨rfl, rfl⟩, .inl rfl, .inl rfl, trivial⟩)) ?_
    refine Up.arr (Arr.nilV 3) (.inl (.inr ⟨_, [.sl 2 0 0 0, .sl 3 0 0 0, .s (.int .i64 0)], rfl, rfl, .inl rfl, .inr ⟨rfl, rfl⟩, .inl rfl, trivial⟩)) ?_
    refine Up.gc (.agg (dO [] [] 0 0 0 1 0)) [2, 3] (dH [] [] 0 0) (by simp) ?_ ?_ ⟨0, 0, Nat.le_refl _, Nat.le_refl _, rfl, rfl⟩
    · exact ⟨.inl ⟨rfl, rfl⟩, .inl ⟨rfl, rfl⟩, trivial⟩
    · rfl
theorem walk13 (fl : List Fl) (ol : List Opn) (cap : Int)  : PureV C 13 [.agg (dV fl ol cap)] (.s (.bool true)) := by
  refine pure_of_run Try.func13 rfl (by kernel_rfl) (by kernel_rfl) (by simp) (fun _ => rfl) (fun _ => rfl) 6 1000 ?_
  simp +contextual (maxSteps := 2000000) (disch := ((try unfold LIM at *); omega)) only [↓bcase_true, ↓bcase_false, WA, simprocAttr, wrap_i64, dV]
  refine CallThen.pure (walk30 fl ol cap 1048576 (by omega) (by omega)) 1000 ?_
  by_cases c : szD fl ol 1048576 < 0
  · simp +contextual (maxSteps := 2000000) (disch := ((try unfold LIM at *); omega)) only [↓bcase_true, ↓bcase_false, WA, simprocAttr, wrap_i64, c]
  have S := sized_of (fl := fl) (ol := ol) (left := 1048576) (by omega) (by omega)
  have hf := S.f
  have ho := S.o
  simp +contextual (maxSteps := 2000000) (disch := ((try unfold LIM at *); omega)) only [↓bcase_true, ↓bcase_false, WA, simprocAttr, wrap_i64, c]
  refine CallThen.pure (walk32 fl ol cap S.f S.o) 1000 ?_
  simp +contextual (maxSteps := 2000000) (disch := ((try unfold LIM at *); omega)) only [↓bcase_true, ↓bcase_false, WA, simprocAttr, wrap_i64]
  obtain ⟨sl, so, q, wS, nI, hsl, hso⟩ : ∃ sl so q, PureV C 56 [.agg (dV fl ol cap)] (.agg (dV sl so q)) ∧ NewD 48 [.agg (dV fl ol cap)] sl so q ∧ sl.length ≤ 1048576 ∧ so.length ≤ 1048576 := ⟨_, _, _, (walk56 fl ol cap S), (new48 fl ol cap S), by have := see_len (fl := fl) (ol := ol) (cap := cap); omega, by simp⟩
  refine CallThen.pure wS 1000 ?_
  simp +contextual (maxSteps := 2000000) (disch := ((try unfold LIM at *); omega)) only [↓bcase_true, ↓bcase_false, WA, simprocAttr, wrap_i64, dV]
  refine CallThen.newD (new32 fl ol cap S.f S.o) 6 (by simp +contextual (maxSteps := 2000000) (disch := ((try unfold LIM at *); omega)) only [↓bcase_true, ↓bcase_false, WA, simprocAttr, wrap_i64, dV, frzs_f]) 1000 fun c1 c2 hc1 hc2 => ?_
  simp +contextual (maxSteps := 2000000) (disch := ((try unfold LIM at *); omega)) only [↓bcase_true, ↓bcase_false, WA, simprocAttr, wrap_i64, dO, dH]
  refine CallThen.newD nI 6 ?_ 1000 fun c3 c4 hc3 hc4 => ?_
  · simp +contextual (maxSteps := 2000000) (disch := ((try unfold LIM at *); omega)) only [↓bcase_true, ↓bcase_false, WA, simprocAttr, wrap_i64, dV, List.length_map, own_fl, own_ol, fV_frz, oV_frz, Nat.not_lt_zero]
  simp +contextual (maxSteps := 2000000) (disch := ((try unfold LIM at *); omega)) only [↓bcase_true, ↓bcase_false, WA, simprocAttr, wrap_i64, dO, dH]
  refine CallThen.borrow (walk34 sl so q sl so q) (flat_s _) 6 ?_ 1000 ?_
  · simp +contextual (maxSteps := 2000000) (disch := ((try unfold LIM at *); omega)) only [↓bcase_true, ↓bcase_false, WA, simprocAttr, wrap_i64, dV, List.length_map, own_fl, own_ol, fV_frz, oV_frz, Nat.not_lt_zero]
  simp +contextual (maxSteps := 2000000) (disch := ((try unfold LIM at *); omega)) only [↓bcase_true, ↓bcase_false, WA, simprocAttr, wrap_i64, and_self]
  refine DrawThen.of 1000 [2, 3] (.old 0 (.old 1 (.go 2 (.go 3 (.new 4 .done))))) (panFree_pure _ _ _) (by kernel_rfl) (by kernel_rfl) (by kernel_rfl) ?_
  simp +contextual (maxSteps := 2000000) (disch := ((try unfold LIM at *); omega)) only [↓bcase_true, ↓bcase_false, WA, simprocAttr, wrap_i64]
  refine DCall.pure (walk32 fl ol cap S.f S.o) 1000 (.go 3 (.new 4 .done)) (by kernel_rfl) ?_
  simp +contextual (maxSteps := 2000000) (disch := ((try unfold LIM at *); omega)) only [↓bcase_true, ↓bcase_false, WA, simprocAttr, wrap_i64, dV]
  refine DCall.borrow (walk34 fl ol cap fl ol cap) (flat_s _) 6 ?_ 1000 (.new 4 .done) (by kernel_rfl) ?_
  · simp +contextual (maxSteps := 2000000) (disch := ((try unfold LIM at *); omega)) only [↓bcase_true, ↓bcase_false, WA, simprocAttr, wrap_i64, dV, List.length_map, own_fl, own_ol, fV_frz, oV_frz, Nat.not_lt_zero]
  simp +contextual (maxSteps := 2000000) (disch := ((try unfold LIM at *); omega)) only [↓bcase_true, ↓bcase_false, WA, simprocAttr, wrap_i64, and_self]
  refine CallThen.edit (walk51 fl ol cap 1 c1 c2 S.f S.o hc1 hc2 (by omega) (by omega)) [2, 3] (by simp) ⟨.inl ⟨nrs_map fV_nr _, rfl⟩, .inl ⟨nrs_map oV_nr _, rfl⟩, trivial⟩ rfl 1000 ?_
  have p1 : ¬ (1 + 2 * (fl.length : Int) + 3 * (ol.length : Int) < 0) := by omega
  simp +contextual (maxSteps := 2000000) (disch := ((try unfold LIM at *); omega)) only [↓bcase_true, ↓bcase_false, WA, simprocAttr, wrap_i64, WB8, dH, p1]
  refine CallThen.borrow (walk34 sl so q sl so q) (flat_s _) 6 ?_ 1000 ?_
  · simp +contextual (maxSteps := 2000000) (disch := ((try unfold LIM at *); omega)) only [↓bcase_true, ↓bcase_false, WA, simprocAttr, wrap_i64, dV, List.length_map, own_fl, own_ol, fV_frz, oV_frz, Nat.not_lt_zero]
  simp +contextual (maxSteps := 2000000) (disch := ((try unfold LIM at *); omega)) only [↓bcase_true, ↓bcase_false, WA, simprocAttr, wrap_i64, WB8, and_self]
  refine CallThen.edit (walk51 sl so q 1 c3 c4 hsl hso hc3 hc4 (by omega) (by omega)) [5, 6] (by simp) ⟨.inl ⟨nrs_map fV_nr _, rfl⟩, .inl ⟨nrs_map oV_nr _, rfl⟩, trivial⟩ rfl 1000 ?_
  have p2 : ¬ (1 + 2 * (sl.length : Int) + 3 * (so.length : Int) < 0) := by omega
  simp +contextual (maxSteps := 2000000) (disch := ((try unfold LIM at *); omega)) only [↓bcase_true, ↓bcase_false, WA, simprocAttr, wrap_i64, WB8, dH]
  refine CallThen.borrow (walk55 q 1 sl.length so.length hsl hso (by omega) (by omega)) (flat_s _) 6 ?_ 1000 ?_
  · simp +contextual (maxSteps := 2000000) (disch := ((try unfold LIM at *); omega)) only [↓bcase_true, ↓bcase_false, WA, simprocAttr, wrap_i64, dV, List.length_map, fV_frz, oV_frz, Nat.not_lt_zero, markF_len, markF_take, markO_len, markO_take]
  simp +contextual (maxSteps := 2000000) (disch := ((try unfold LIM at *); omega)) only [↓bcase_true, ↓bcase_false, WA, simprocAttr, wrap_i64, WB8, p2, bne_self_eq_false]
  refine CallThen.pure (walk32 fl ol cap S.f S.o) 1000 ?_
  simp +contextual (maxSteps := 2000000) (disch := ((try unfold LIM at *); omega)) only [↓bcase_true, ↓bcase_false, WA, simprocAttr, wrap_i64, WB8, dV]
  refine CallThen.newD nI 6 ?_ 1000 fun c5 c6 hc5 hc6 => ?_
  · simp +contextual (maxSteps := 2000000) (disch := ((try unfold LIM at *); omega)) only [↓bcase_true, ↓bcase_false, WA, simprocAttr, wrap_i64, dV, frzs_f]
  simp +contextual (maxSteps := 2000000) (disch := ((try unfold LIM at *); omega)) only [↓bcase_true, ↓bcase_false, WA, simprocAttr, wrap_i64, WB8, dO, dH]
  refine CallThen.borrow (walk34 sl so q sl so q) (flat_s _) 6 ?_ 1000 ?_
  · simp +contextual (maxSteps := 2000000) (disch := ((try unfold LIM at *); omega)) only [↓bcase_true, ↓bcase_false, WA, simprocAttr, wrap_i64, dV, List.length_map, own_fl, own_ol, fV_frz, oV_frz, Nat.not_lt_zero]
  simp +contextual (maxSteps := 2000000) (disch := ((try unfold LIM at *); omega)) only [↓bcase_true, ↓bcase_false, WA, simprocAttr, wrap_i64, WB8, and_self]
  refine CallThen.borrow (walk55 q 1 sl.length so.length hsl hso (by omega) (by omega)) (flat_s _) 6 ?_ 1000 ?_
  · simp +contextual (maxSteps := 2000000) (disch := ((try unfold LIM at *); omega)) only [↓bcase_true, ↓bcase_false, WA, simprocAttr, wrap_i64, dV, List.length_map, fV_frz, oV_frz, Nat.not_lt_zero, markF_len, markF_take, markO_len, markO_take]
  simp +contextual (maxSteps := 2000000) (disch := ((try unfold LIM at *); omega)) only [↓bcase_true, ↓bcase_false, WA, simprocAttr, wrap_i64, WB8, p2, bne_self_eq_false]
end Go.Proofs.Ytpcgnmoogjahbaa
/- part D30 -/
set_option linter.unusedVariables false
set_option linter.unusedSimpArgs false
set_option maxRecDepth 100000
namespace Go.Proofs.Ytpcgnmoogjahbaa
open Go Go.W Go.RowKit
theorem new117 (l : List Opn) (hl : l.length ≤ 1048576) : NewV C 117 [.f 3 (l.map oV)] 3 (l.map oV) := by
  refine calls_of_run Try.func117 rfl (by kernel_rfl) (by kernel_rfl) (by simp) 1000 ?_
  have q1 : l.length * 40 ≤ 140737488355328 ∧ l.length ≤ LIM := by unfold LIM; omega
  simp +contextual (maxSteps := 2000000) (disch := ((try unfold LIM at *); omega)) only [↓bcase_true, ↓bcase_false, WA, simprocAttr, wrap_i64, leafs_map oV_ok, List.length_map, q1, takeTo, List.take_length, take_map_len]
  intro r hr
  cases r with
  | true =>
    simp +contextual (maxSteps := 2000000) (disch := ((try unfold LIM at *); omega)) only [↓bcase_true, ↓bcase_false, WA, simprocAttr, wrap_i64]
    have e : l = [] := by
      cases l with
      | nil => rfl
      | cons a b => exact absurd (hr (by simp)) (by simp)
    subst e
    exact Up.nil 3 ⟨0, by simp, rfl, rfl⟩
  | false =>
    simp +contextual (maxSteps := 2000000) (disch := ((try unfold LIM at *); omega)) only [↓bcase_true, ↓bcase_false, WA, simprocAttr, wrap_i64, leafs_map oV_ok, List.length_map, q1, takeTo, List.take_length, take_map_len]
    intro cap' hc _
    exact Up.fresh (b := 1) rfl (nrs_map oV_nr _) ⟨cap', hc, rfl, rfl⟩
theorem new83 (fl : List Fl) (ol : List Opn) (cap : Int) (hf : fl.length ≤ 1048576) (ho : ol.length ≤ 1048576) : NewD 83 [.agg (dV fl ol cap)] fl ol cap := by
  refine calls_of_run Try.func83 rfl (by kernel_rfl) (by kernel_rfl) (by simp) 1000 ?_
  simp +contextual (maxSteps := 2000000) (disch := ((try unfold LIM at *); omega)) only [↓bcase_true, ↓bcase_false, WA, simprocAttr, wrap_i64, dV]
  refine DrawThen.of 1000 [1] (.old 0 (.old 1 (.old 3 (.old 4 (.old 6 (.old 7 (.go 2 (.go 5 (.new 8 (.go 9 .done)))))))))) (panFree_body _ _) (by kernel_rfl) (by kernel_rfl) (by kernel_rfl) ?_
  simp +contextual (maxSteps := 2000000) (disch := ((try unfold LIM at *); omega)) only [↓bcase_true, ↓bcase_false, WA, simprocAttr, wrap_i64, dV]
  refine DCall.new (walk76 fl hf) (nrs_map fV_nr _) (fun _ => rfl) 1000 (.go 5 (.new 8 (.go 9 .done))) (by kernel_rfl) fun c1 hc1 => ?_
  rw [List.length_map] at hc1
  simp +contextual (maxSteps := 2000000) (disch := ((try unfold LIM at *); omega)) only [↓bcase_true, ↓bcase_false, WA, simprocAttr, wrap_i64, List.length_map]
  refine DCall.new (new117 ol ho) (nrs_map oV_nr _) (fun _ => rfl) 1000 (.new 8 (.go 9 .done)) (by kernel_rfl) fun c2 hc2 => ?_
  rw [List.length_map] at hc2
  simp +contextual (maxSteps := 2000000) (disch := ((try unfold LIM at *); omega)) only [↓bcase_true, ↓bcase_false, WA, simprocAttr, wrap_i64, List.length_map]
  refine Up.gc (.agg (dO fl ol cap 0 c1 1 c2)) [2, 3] (dH fl ol c1 c2) (by simp) ?_ ?_ ⟨c1, c2, hc1, hc2, rfl, rfl⟩
  · exact ⟨.inl ⟨nrs_map fV_nr _, rfl⟩, .inl ⟨nrs_map oV_nr _, rfl⟩, trivial⟩
  · rfl
theorem walk85 (fl : List Fl) (ol : List Opn) (cap : Int) (hf : fl.length ≤ 1048576) (ho : ol.length ≤ 1048576) : PureV C 85 [.agg (dV fl ol cap)] (.agg (dV fl ol cap)) := by
  refine pure_of_run Try.func85 rfl (by kernel_rfl) (by kernel_rfl) (by simp) (fun _ => rfl) (fun _ => rfl) 6 1000 ?_
  simp +contextual (maxSteps := 2000000) (disch := ((try unfold LIM at *); omega)) only [↓bcase_true, ↓bcase_false, WA, simprocAttr, wrap_i64, dV]
  refine DrawThen.of 1000 [1] (.old 1 (.old 2 (.old 5 (.old 6 (.old 8 (.old 9 (.or 0 (.or 3 (.go 4 (.go 7 (.new 10 (.go 11 .done)))) (.go 4 (.go 3 (.go 7 (.new 10 (.go 11 .done)))))) (.go 4 (.go 0 (.go 3 (.go 7 (.new 10 (.go 11 .done))))))))))))) (panFree_pure _ _ _) (by kernel_rfl) (by kernel_rfl) (by kernel_rfl) ?_
  have q1 : fl.length * 32 ≤ 140737488355328 ∧ fl.length ≤ LIM := by unfold LIM; omega
  have q2 : ol.length * 40 ≤ 140737488355328 ∧ ol.length ≤ LIM := by unfold LIM; omega
  simp +contextual (maxSteps := 2000000) (disch := ((try unfold LIM at *); omega)) only [↓bcase_true, ↓bcase_false, WA, simprocAttr, wrap_i64, dV, leafs_map fV_ok, leafs_map oV_ok, List.length_map, q1, q2, takeTo, List.take_length, take_map_len, fV_frz, oV_frz, Nat.not_lt_zero]
end Go.Proofs.Ytpcgnmoogjahbaa
/- part D31 -/
set_option linter.unusedVariables false
set_option linter.unusedSimpArgs false
set_option maxRecDepth 100000
namespace Go.Proofs.Ytpcgnmoogjahbaa
open Go Go.W Go.RowKit
def goB (fl : List Fl) (ol : List Opn) (cap : Int) (o : Opn) : Bool := decide (1 ≤ o.1 ∧ o.1 ≤ 4) && (decide (ol.length ≠ 2000) && decide (fits (doS (seeS fl ol ol.length) o) cap))
set_option maxHeartbeats 1000000 in
theorem walk84 (fl : List Fl) (ol : List Opn) (cap : Int) (o : Opn) (c1 c2 : Nat) (hc1 : fl.length ≤ c1) (hc2 : ol.length ≤ c2) (g : Good fl ol cap) (hs : ∀ o ∈ ol, oneO o ≤ 1048576) (ho : oneO o ≤ 1048576) :
    CallsV C 84 [.ptr 0 0 0, .agg (oV o)] [⟨[dO fl ol cap 1 c1 2 c2], 3, 1, true⟩, ⟨fl.map fV, 2, c1, true⟩, ⟨ol.map oV, 3, c2, true⟩] fun res h' =>
      (goB fl ol cap o = true ∧ ∃ c3, ol.length + 1 ≤ c3 ∧ res = .ret (.s (.bool true)) ∧ h' = [⟨[dO fl (ol ++ [o]) cap 1 c1 3 c3], 3, 1, true⟩, ⟨fl.map fV, 2, c1, true⟩, Blk.dead, ⟨(ol ++ [o]).map oV, 3, c3, true⟩]) ∨
      (goB fl ol cap o = false ∧ res = .ret (.s (.bool false)) ∧ h' = [⟨[dO fl ol cap 1 c1 2 c2], 3, 1, true⟩, ⟨fl.map fV, 2, c1, true⟩, ⟨ol.map oV, 3, c2, true⟩]) := by
  refine calls_of_run Try.func84 rfl (by kernel_rfl) (by kernel_rfl) (by simp) 1000 ?_
  have hol := g.late
  have bad : goB fl ol cap o = false → ∀ (h : Go.W.H), h[0]? = some ⟨[dO fl ol cap 1 c1 2 c2], 3, 1, true⟩ → h[1]? = some ⟨fl.map fV, 2, c1, true⟩ → h[2]? = some ⟨ol.map oV, 3, c2, true⟩ →
      Up 3 (fun res h' => (goB fl ol cap o = true ∧ ∃ c3, ol.length + 1 ≤ c3 ∧ res = .ret (.s (.bool true)) ∧ h' = [⟨[dO fl (ol ++ [o]) cap 1 c1 3 c3], 3, 1, true⟩, ⟨fl.map fV, 2, c1, true⟩, Blk.dead, ⟨(ol ++ [o]).map oV, 3, c3, true⟩]) ∨
        (goB fl ol cap o = false ∧ res = .ret (.s (.bool false)) ∧ h' = [⟨[dO fl ol cap 1 c1 2 c2], 3, 1, true⟩, ⟨fl.map fV, 2, c1, true⟩, ⟨ol.map oV, 3, c2, true⟩])) (.ret (.s (.bool false))) h := by
    intro hb h e0 e1 e2
    refine Up.keep [⟨[dO fl ol cap 1 c1 2 c2], 3, 1, true⟩, ⟨fl.map fV, 2, c1, true⟩, ⟨ol.map oV, 3, c2, true⟩] (fun _ => rfl) rfl ?_ (.inr ⟨hb, rfl, rfl⟩)
    show gcL _ _ [0, 1, 2] _
    exact ⟨.inr e0, .inl ⟨nrs_map fV_nr _, e1⟩, .inl ⟨nrs_map oV_nr _, e2⟩, trivial⟩
  simp +contextual (maxSteps := 2000000) (disch := ((try unfold LIM at *); omega)) only [↓bcase_true, ↓bcase_false, WA, simprocAttr, wrap_i64, oV, dO]
  refine DrawThen.of 1000 [1, 2] (.old 0 (.go 1 (.new 2 (.new 3 (.old 4 (.old 5 (.old 6 (.old 7 (.old 8 (.old 9 (.new 10 (.new 11 (.old 12 (.old 13 (.old 14 (.old 16 (.old 18 (.old 19 (.old 20 (.old 21 (.go 15 (.go 17 (.go 22 (.new 23 (.new 24 .done))))))))))))))))))))))))) (panFree_body _ _) (by kernel_rfl) (by kernel_rfl) (by kernel_rfl) ?_
  simp +contextual (maxSteps := 2000000) (disch := ((try unfold LIM at *); omega)) only [↓bcase_true, ↓bcase_false, WA, simprocAttr, wrap_i64, oV]
  refine DCall.pure (walk77 o) 1000 (.new 2 (.new 3 (.old 4 (.old 5 (.old 6 (.old 7 (.old 8 (.old 9 (.new 10 (.new 11 (.old 12 (.old 13 (.old 14 (.old 16 (.old 18 (.old 19 (.old 20 (.old 21 (.go 15 (.go 17 (.go 22 (.new 23 (.new 24 .done))))))))))))))))))))))) (by kernel_rfl) ?_
  by_cases e1 : 1 ≤ o.1 ∧ o.1 ≤ 4
  rotate_left
  · have hb : goB fl ol cap o = false := by simp [goB, e1]
    simp +contextual (maxSteps := 2000000) (disch := ((try unfold LIM at *); omega)) only [↓bcase_true, ↓bcase_false, WA, simprocAttr, wrap_i64, oV, e1]
    exact bad hb _ rfl rfl rfl
  by_cases e2 : ol.length = 2000
  · have hb : goB fl ol cap o = false := by simp [goB, e2]
    have e2' : (ol.length : Int) = 2000 := by omega
    simp +contextual (maxSteps := 2000000) (disch := ((try unfold LIM at *); omega)) only [↓bcase_true, ↓bcase_false, WA, simprocAttr, wrap_i64, oV, e1, e2', List.length_map]
    exact bad hb _ rfl rfl rfl
  have e2' : ¬ (ol.length : Int) = 2000 := by omega
  generalize hl : seeS fl ol ol.length = l at *
  have pa : ascS l = true := hl ▸ g.asc _
  have sz : l.length ≤ 20 ∧ sizeF l ≤ 1000000 := hl ▸ g.size _
  have w87 := walk87 fl ol cap g hs
  rw [hl] at w87
  simp +contextual (maxSteps := 2000000) (disch := ((try unfold LIM at *); omega)) only [↓bcase_true, ↓bcase_false, WA, simprocAttr, wrap_i64, oV, e1, e2', List.length_map]
  refine DCall.newB w87 (plains_map fV_plain _) 6 ?_ 1000 (.go 17 (.go 22 (.new 23 (.new 24 .done)))) (by kernel_rfl) fun cp hc => ?_
  · simp +contextual (maxSteps := 2000000) (disch := ((try unfold LIM at *); omega)) only [↓bcase_true, ↓bcase_false, WA, simprocAttr, wrap_i64, dV, List.length_map, own_fl, own_ol, fV_frz, oV_frz, Nat.not_lt_zero]
  rw [List.length_map] at hc
  have b2 := sizeF_get l o.2.1
  have b4 := get_cut l o.2.1 pa
  rw [b4] at b2
  simp only [oneO] at ho
  have ad := apply_do l o pa e1.1 e1.2
  have wa : ascS (withoutS l o.2.1 (cutN l o.2.1)) = true := by rw [without_drop _ _ pa]; exact asc_drop pa _
  have w78 := walk78 l o _ _ (by omega) (cut_cutN pa o.2.1) (cut_cutN wa o.2.2) (by simp only at b2; omega)
  rw [ad] at w78
  have b1 := do_bound l o
  simp +contextual (maxSteps := 2000000) (disch := ((try unfold LIM at *); omega)) only [↓bcase_true, ↓bcase_false, WA, simprocAttr, wrap_i64, oV, List.length_map]
  rw [show l.length = (l.map fV).length by simp]
  refine DCall.own w78 (by rfl) (by simpa using hc) 1000 (.go 22 (.new 23 (.new 24 .done))) (by kernel_rfl) fun cp' hc' => ?_
  rw [List.length_map] at hc'
  simp +contextual (maxSteps := 2000000) (disch := ((try unfold LIM at *); omega)) only [↓bcase_true, ↓bcase_false, WA, simprocAttr, wrap_i64, List.length_map]
  refine DCall.borrow (walk75 (doS l o) cap (by omega)) (flat_s _) 6 ?_ 1000 (.new 23 (.new 24 .done)) (by kernel_rfl) ?_
  · simp +contextual (maxSteps := 2000000) (disch := ((try unfold LIM at *); omega)) only [↓bcase_true, ↓bcase_false, WA, simprocAttr, wrap_i64, List.length_map, fV_frz, Nat.not_lt_zero, own_fl]
  by_cases e3 : fits (doS l o) cap
  rotate_left
  · have hb : goB fl ol cap o = false := by simp [goB, hl, e3]
    simp +contextual (maxSteps := 2000000) (disch := ((try unfold LIM at *); omega)) only [↓bcase_true, ↓bcase_false, WA, simprocAttr, wrap_i64, e3]
    exact bad hb _ rfl rfl rfl
  have hb : goB fl ol cap o = true := by simp [goB, hl, e1, e2, e3]
  have q1 : (ol.length + 1) * 40 ≤ 140737488355328 := by omega
  have q2 : ol.length + 1 ≤ LIM := by unfold LIM; omega
  simp +contextual (maxSteps := 2000000) (disch := ((try unfold LIM at *); omega)) only [↓bcase_true, ↓bcase_false, WA, simprocAttr, wrap_i64, e3]
  refine DrawThen.of 1000 [0, 2] (.old 0 (.old 1 (.old 2 (.old 3 (.old 5 (.or 4 (.go 6 (.go 7 (.old 8 (.old 9 (.go 10 .done))))) (.go 6 (.go 4 (.go 7 (.old 8 (.old 9 (.go 10 .done)))))))))))) (panFree_body _ _) (by kernel_rfl) (by kernel_rfl) (by kernel_rfl) ?_
  simp +contextual (maxSteps := 2000000) (disch := ((try unfold LIM at *); omega)) only [↓bcase_true, ↓bcase_false, WA, simprocAttr, wrap_i64, leafs_map oV_ok, List.length_map, q1, q2, takeTo, List.take_length, take_map_len]
  intro cap' hcap _
  have hl1 : (ol ++ [o]).length = ol.length + 1 := by simp
  have hm : (ol ++ [o]).map oV = ol.map oV ++ [oV o] := by simp
  refine Up.gcN (.s (.bool true)) [0, 1, 2, 7] [⟨[dO fl (ol ++ [o]) cap 1 c1 3 cap'], 3, 1, true⟩, ⟨fl.map fV, 2, c1, true⟩, Blk.dead, ⟨(ol ++ [o]).map oV, 3, cap', true⟩] (by simp) rfl ?_ rfl (.inl ⟨hb, cap', hcap, rfl, rfl⟩)
  refine ⟨.inr ?_, .inl ⟨nrs_map fV_nr _, rfl⟩, .inl ⟨rfl, rfl⟩, .inl ⟨nrs_map oV_nr _, by rw [hm]; rfl⟩, trivial⟩
  simp only [dO, hl1]; rfl
def doOl (fl : List Fl) (ol : List Opn) (cap : Int) (o : Opn) : List Opn := if goB fl ol cap o = true then ol ++ [o] else ol
theorem new36 (fl : List Fl) (ol : List Opn) (cap : Int) (o : Opn) (S : Sized fl ol 1048576) (ho : oneO o ≤ 1048576) (g : Good fl ol cap) (hd : diskOk fl ol cap = true) :
    CallsV C 36 [.agg (dV fl ol cap), .agg (oV o)] [] fun res h' => ∃ c1 c2, fl.length ≤ c1 ∧ (doOl fl ol cap o).length ≤ c2 ∧ res = .ret (.tup [.agg (dO fl (doOl fl ol cap o) cap 0 c1 1 c2), .s (.bool (goB fl ol cap o))]) ∧ h' = dH fl (doOl fl ol cap o) c1 c2 := by
  refine calls_of_run Try.func36 rfl (by kernel_rfl) (by kernel_rfl) (by simp) 1000 ?_
  simp +contextual (maxSteps := 2000000) (disch := ((try unfold LIM at *); omega)) only [↓bcase_true, ↓bcase_false, WA, simprocAttr, wrap_i64, dV, oV]
  refine CallThen.pure (walk33 fl ol cap S.f S.o S.b S.s) 1000 ?_
  simp +contextual (maxSteps := 2000000) (disch := ((try unfold LIM at *); omega)) only [↓bcase_true, ↓bcase_false, WA, simprocAttr, wrap_i64, dV, hd]
  refine CallThen.newD (new83 fl ol cap S.f S.o) 6 (by simp +contextual (maxSteps := 2000000) (disch := ((try unfold LIM at *); omega)) only [↓bcase_true, ↓bcase_false, WA, simprocAttr, wrap_i64, dV, frzs_f]) 1000 fun c1 c2 hc1 hc2 => ?_
  simp +contextual (maxSteps := 2000000) (disch := ((try unfold LIM at *); omega)) only [↓bcase_true, ↓bcase_false, WA, simprocAttr, wrap_i64, dO, dH]
  refine CallThen.of 1000 (CallsV.frame (walk84 fl ol cap o c1 c2 hc1 hc2 g S.s ho) [5, 3, 4] _ rfl (by simp) ?_) ?_
  · exact (gcL_spec (r := emb [5, 3, 4] 6) (l := [5, 3, 4]) (h' := [⟨[dO fl ol cap 1 c1 2 c2], 3, 1, true⟩, ⟨fl.map fV, 2, c1, true⟩, ⟨ol.map oV, 3, c2, true⟩]) ⟨.inr rfl, .inl ⟨nrs_map fV_nr _, rfl⟩, .inl ⟨nrs_map oV_nr _, rfl⟩, trivial⟩).2
  rintro r' h' ⟨r, h1, (⟨hb, c3, hc3, rfl, rfl⟩ | ⟨hb, rfl, rfl⟩), rfl, rfl⟩
  · have e : List.map (rnB (emb [5, 3, 4] 6)) [⟨[dO fl (ol ++ [o]) cap 1 c1 3 c3], 3, 1, true⟩, ⟨fl.map fV, 2, c1, true⟩, Blk.dead, ⟨(ol ++ [o]).map oV, 3, c3, true⟩] = [⟨[dO fl (ol ++ [o]) cap 3 c1 6 c3], 3, 1, true⟩, ⟨fl.map fV, 2, c1, true⟩, Blk.dead, ⟨(ol ++ [o]).map oV, 3, c3, true⟩] := by
      show [rnB _ _, rnB _ _, rnB _ _, rnB _ _] = _
      rw [nrs_rn _ (B := ⟨fl.map fV, 2, c1, true⟩) (nrs_map fV_nr _), nrs_rn _ (B := ⟨(ol ++ [o]).map oV, 3, c3, true⟩) (nrs_map oV_nr _)]; rfl
    have hl1 : (ol ++ [o]).length ≤ 1048576 := by have := g.late; simp; omega
    have hl2 : (ol ++ [o]).length ≤ c3 := by simpa using hc3
    have ed : doOl fl ol cap o = ol ++ [o] := by simp [doOl, hb]
    rw [ed]
    simp only [List.length_cons, List.length_nil, Nat.zero_add, Nat.reduceAdd] at *
    rw [e]
    generalize ol ++ [o] = o2 at *
    simp +contextual (maxSteps := 2000000) (disch := ((try unfold LIM at *); omega)) only [↓bcase_true, ↓bcase_false, WA, simprocAttr, wrap_i64, WB8, dO, rnRes, rnV, rnQ, rnC, rnP]
    refine CallThen.newD (new83 fl o2 cap S.f hl1) 6 ?_ 1000 fun d1 d2 hd1 hd2 => ?_
    · simp +contextual (maxSteps := 2000000) (disch := ((try unfold LIM at *); omega)) only [↓bcase_true, ↓bcase_false, WA, simprocAttr, wrap_i64, dV, List.length_map, own_fl, own_ol, fV_frz, oV_frz, Nat.not_lt_zero]
    simp +contextual (maxSteps := 2000000) (disch := ((try unfold LIM at *); omega)) only [↓bcase_true, ↓bcase_false, WA, simprocAttr, wrap_i64, WB8, dO, dH]
    refine Up.gc (.tup [.agg (dO fl o2 cap 0 d1 1 d2), .s (.bool true)]) [7, 8] (dH fl o2 d1 d2) (by simp) ?_ ?_ ⟨d1, d2, hd1, hd2, by rw [hb]; rfl, rfl⟩
    · exact ⟨.inl ⟨nrs_map fV_nr _, rfl⟩, .inl ⟨nrs_map oV_nr _, rfl⟩, trivial⟩
    · rfl
  · have e : List.map (rnB (emb [5, 3, 4] 6)) [⟨[dO fl ol cap 1 c1 2 c2], 3, 1, true⟩, ⟨fl.map fV, 2, c1, true⟩, ⟨ol.map oV, 3, c2, true⟩] = [⟨[dO fl ol cap 3 c1 4 c2], 3, 1, true⟩, ⟨fl.map fV, 2, c1, true⟩, ⟨ol.map oV, 3, c2, true⟩] := by
      show [rnB _ _, rnB _ _, rnB _ _] = _
      rw [nrs_rn _ (B := ⟨fl.map fV, 2, c1, true⟩) (nrs_map fV_nr _), nrs_rn _ (B := ⟨ol.map oV, 3, c2, true⟩) (nrs_map oV_nr _)]; rfl
    have ed : doOl fl ol cap o = ol := by simp [doOl, hb]
    rw [ed]
    simp only [List.length_cons, List.length_nil, Nat.zero_add, Nat.reduceAdd] at *
    rw [e]
    simp +contextual (maxSteps := 2000000) (disch := ((try unfold LIM at *); omega)) only [↓bcase_true, ↓bcase_false, WA, simprocAttr, wrap_i64, WB8, dO, rnRes, rnV, rnQ, rnC, rnP]
    refine CallThen.newD (new83 fl ol cap S.f S.o) 6 ?_ 1000 fun d1 d2 hd1 hd2 => ?_
    · simp +contextual (maxSteps := 2000000) (disch := ((try unfold LIM at *); omega)) only [↓bcase_true, ↓bcase_false, WA, simprocAttr, wrap_i64, dV, List.length_map, own_fl, own_ol, fV_frz, oV_frz, Nat.not_lt_zero]
    simp +contextual (maxSteps := 2000000) (disch := ((try unfold LIM at *); omega)) only [↓bcase_true, ↓bcase_false, WA, simprocAttr, wrap_i64, WB8, dO, dH]
    refine Up.gc (.tup [.agg (dO fl ol cap 0 d1 1 d2), .s (.bool false)]) [6, 7] (dH fl ol d1 d2) (by simp) ?_ ?_ ⟨d1, d2, hd1, hd2, by rw [hb]; rfl, rfl⟩
    · exact ⟨.inl ⟨nrs_map fV_nr _, rfl⟩, .inl ⟨nrs_map oV_nr _, rfl⟩, trivial⟩
    · rfl
end Go.Proofs.Ytpcgnmoogjahbaa
/- part D32 -/
set_option linter.unusedVariables false
set_option linter.unusedSimpArgs false
set_option maxRecDepth 100000
namespace Go.Proofs.Ytpcgnmoogjahbaa
open Go Go.W Go.RowKit
theorem NewV.fin {l : List Fl} {b len cap : Nat} {h : Go.W.H} (hb : h[b]? = some ⟨l.map fV, 2, cap, true⟩) (hl : len = l.length) (hc : l.length ≤ cap) :
    Up 0 (fun res h' => ∃ cap, l.length ≤ cap ∧ res = Res.ret (.sl 0 0 l.length cap) ∧ h' = [⟨l.map fV, 2, cap, true⟩]) (.ret (.sl b 0 len cap)) h := by
  subst hl
  exact Up.fresh hb (nrs_map fV_nr _) ⟨cap, hc, rfl, rfl⟩
theorem new107 (l : List Fl) (n : ByteArray) (hl : l.length ≤ 1048576) : NewV C 107 [.f 2 (l.map fV), .s (.string n)] 2 ((dropS l n).map fV) := by
  refine calls_of_run Try.func107 rfl (by kernel_rfl) (by kernel_rfl) (by simp) 1000 ?_
  simp +contextual (maxSteps := 2000000) (disch := ((try unfold LIM at *); omega)) only [↓bcase_true, ↓bcase_false, WA, simprocAttr, wrap_i64]
  refine LoopThen.own (ι := Nat × Nat) (fun p => p.1 ≤ l.length ∧ (dropS (l.take p.1) n).length ≤ p.2) (fun p => [(0, .f 2 (l.map fV)), (1, .s (.string n)), (5, .sl 0 0 (dropS (l.take p.1) n).length p.2), (6, .s (.int .i64 p.1))])
    (fun p => [⟨(dropS (l.take p.1) n).map fV, 2, p.2, true⟩]) (fun p => l.length - p.1) 1000 1000 ⟨(0, 0), ⟨Nat.zero_le _, Nat.zero_le _⟩, [0], by simp, by simp +contextual (maxSteps := 2000000) (disch := ((try unfold LIM at *); omega)) only [↓bcase_true, ↓bcase_false, WA, simprocAttr, wrap_i64, true_or, dropS, List.filter_nil], by simp +contextual (maxSteps := 2000000) (disch := ((try unfold LIM at *); omega)) only [↓bcase_true, ↓bcase_false, WA, simprocAttr, wrap_i64, dropS, List.filter_nil]⟩ ?_
  rintro ⟨i, cap⟩ ⟨p1, p2⟩
  by_cases c2 : (i : Int) < l.length
  · obtain ⟨f, hf⟩ := get_lt c2
    have pi : (0 : Int) ≤ i := by omega
    have ds : dropS (l.take (i + 1)) n = dropS (l.take i) n ++ if f.1 = n then [] else [f] := by
      unfold dropS; rw [List.take_add_one, hf, List.filter_append]
      by_cases c3 : f.1 = n <;> simp [c3]
    have dl := len_drop (l.take i) n
    rw [List.length_take] at dl
    by_cases c3 : f.1 = n
    · rw [if_pos c3, List.append_nil] at ds
      simp +contextual (maxSteps := 2000000) (disch := ((try unfold LIM at *); omega)) only [↓bcase_true, ↓bcase_false, WA, simprocAttr, wrap_i64, List.length_map, c2, hf, pi, fV, c3, cast_succ]
      intro _
      refine ⟨(i + 1, cap), ⟨⟨by omega, by rw [ds]; exact p2⟩, by omega⟩, [0], by simp, by simp +contextual (maxSteps := 2000000) (disch := ((try unfold LIM at *); omega)) only [↓bcase_true, ↓bcase_false, WA, simprocAttr, wrap_i64, ds, nrs_map fV_nr, true_or], by simp +contextual (maxSteps := 2000000) (disch := ((try unfold LIM at *); omega)) only [↓bcase_true, ↓bcase_false, WA, simprocAttr, wrap_i64, ds]⟩
    · rw [if_neg c3] at ds
      have q1 : (0 : Nat) ≤ (dropS (l.take i) n).length := Nat.zero_le _
      have q2 : ((dropS (l.take i) n).length + 1) * 32 ≤ 140737488355328 := by omega
      have q3 : (dropS (l.take i) n).length + 1 ≤ LIM := by unfold LIM; omega
      simp +contextual (maxSteps := 2000000) (disch := ((try unfold LIM at *); omega)) only [↓bcase_true, ↓bcase_false, WA, simprocAttr, wrap_i64, List.length_map, c2, hf, pi, fV, c3, cast_succ, q2, q3, takeTo, List.set_cons_zero]
      exact fun _ cap' hc _ => ⟨(i + 1, cap'), ⟨⟨by omega, by rw [ds]; simpa using hc⟩, by omega⟩, [2], by simp, by simp +contextual (maxSteps := 2000000) (disch := ((try unfold LIM at *); omega)) only [↓bcase_true, ↓bcase_false, WA, simprocAttr, wrap_i64, ds, List.map_append, fV, nrs_append, nrs_map fV_nr], by simp +contextual (maxSteps := 2000000) (disch := ((try unfold LIM at *); omega)) only [↓bcase_true, ↓bcase_false, WA, simprocAttr, wrap_i64, ds, List.length_append]⟩
  · have e : i = l.length := by simp at p1; omega
    subst e
    simp only [List.take_length] at *
    simp +contextual (maxSteps := 2000000) (disch := ((try unfold LIM at *); omega)) only [↓bcase_true, ↓bcase_false, WA, simprocAttr, wrap_i64, c2, List.length_map]
    intro _
    refine NewV.fin (b := 0) ?_ rfl p2
    rfl
theorem new106 (l : List Fl) (n d : ByteArray) (hl : l.length ≤ 1048576) : NewV C 106 [.f 2 (l.map fV), .s (.string n), .s (.string d)] 2 ((putS l n d).map fV) := by
  refine calls_of_run Try.func106 rfl (by kernel_rfl) (by kernel_rfl) (by simp) 1000 ?_
  simp +contextual (maxSteps := 2000000) (disch := ((try unfold LIM at *); omega)) only [↓bcase_true, ↓bcase_false, WA, simprocAttr, wrap_i64]
  refine LoopThen.pure (ι := Nat) (fun i => i ≤ (l.takeWhile fun f => ltB f.1 n).length) (fun i => keepL [(0, .f 2 (l.map fV)), (1, .s (.string n)), (2, .s (.string d)), (7, .s (.int .i64 i))]) (fun i => l.length - i) 6 [0, 1, 2, 7] 1000 1000 ⟨0, Nat.zero_le _, by simp +contextual (maxSteps := 2000000) (disch := ((try unfold LIM at *); omega)) only [↓bcase_true, ↓bcase_false, WA, simprocAttr, wrap_i64]⟩ ?_
  intro i p1
  have tl : (l.takeWhile fun f => ltB f.1 n).length ≤ l.length := by
    have := congrArg List.length (List.takeWhile_append_dropWhile (p := fun f : Fl => ltB f.1 n) (l := l))
    rw [List.length_append] at this; omega
  obtain ⟨e1, e2⟩ := tw_take (fun f : Fl => ltB f.1 n) l
  -- what comes behind the first loop
  have fin : i = (l.takeWhile fun f => ltB f.1 n).length → True := fun _ => trivial
  by_cases c2 : (i : Int) < l.length
  · obtain ⟨f, hf⟩ := get_lt c2
    have pi : (0 : Int) ≤ i := by omega
    obtain ⟨t1, t2⟩ := tw_get _ l i f hf p1
    cases c3 : ltB f.1 n with
    | true =>
      have b3 : Op.bytesLess f.1.toList n.toList = true := c3
      have := t1 c3
      simp +contextual (maxSteps := 2000000) (disch := ((try unfold LIM at *); omega)) only [↓bcase_true, ↓bcase_false, WA, simprocAttr, wrap_i64, List.length_map, c2, hf, pi, fV, b3, cast_succ]
      exact fun _ => ⟨i + 1, ⟨this, by omega⟩, rfl⟩
    | false =>
      have b3 : Op.bytesLess f.1.toList n.toList = false := c3
      have ei := t2 c3
      have ni : l.take i = l.takeWhile fun f => ltB f.1 n := by rw [ei]; exact e1
      have nd : l.dropWhile (fun f => ltB f.1 n) = f :: l.drop (i + 1) := by rw [← drop_cons hf, ei]; exact e2.symm
      have hA : (l.take i).length = i := by rw [List.length_take]; omega
      have hil : (i : Int) ≤ l.length := by omega
      have r0 : i * 32 ≤ 140737488355328 ∧ i ≤ LIM ∧ (i + 1) * 32 ≤ 140737488355328 ∧ i + 1 ≤ LIM := by unfold LIM; omega
      by_cases c4 : f.1 = n
      · have b4 : Op.bytesLess n.toList n.toList = false := c4 ▸ b3
        have hB : List.take (l.length - (i + 1)) (l.drop (i + 1)) = l.drop (i + 1) := List.take_of_length_le (by simp)
        have hBl : (l.drop (i + 1)).length = l.length - (i + 1) := by simp
        have r1 : (i + 1 + (l.length - (i + 1))) * 32 ≤ 140737488355328 ∧ i + 1 + (l.length - (i + 1)) ≤ LIM := by unfold LIM; omega
        have hp : putS l n d = l.take i ++ [(n, d)] ++ l.drop (i + 1) := by simp [putS, nd, c4, ni]
        have hc : List.map fV (l.take i) ++ [[V.s (.string n), V.s (.string d)]] ++ List.map fV (l.drop (i + 1)) = (putS l n d).map fV := by rw [hp]; simp [fV]
        have hn : i + 1 + (l.length - (i + 1)) = (putS l n d).length := by rw [hp]; simp; omega
        rw [hn] at r1
        have pk : (0 : Int) ≤ (((i + 1) : Nat) : Int) ∧ (((i + 1) : Nat) : Int) ≤ l.length := by omega
        simp +contextual (maxSteps := 2000000) (disch := ((try unfold LIM at *); omega)) only [↓bcase_true, ↓bcase_false, WA, simprocAttr, wrap_i64, List.length_map, c2, hf, fV, b4, c4, cast_succ, Nat.sub_zero, ← List.map_take, ← List.map_drop, hA, hil, pk, r0, leafs_map fV_ok, hB, hBl, r1, takeTo, List.length_append, hc, hn, pi, List.take_length]
        intros
        refine NewV.fin (b := 4) ?_ rfl (by first | assumption | omega)
        rfl
      · have hB : List.take (l.length - i) (l.drop i) = l.drop i := List.take_of_length_le (by simp)
        have hBl : (l.drop i).length = l.length - i := by simp
        have r1 : (i + 1 + (l.length - i)) * 32 ≤ 140737488355328 ∧ i + 1 + (l.length - i) ≤ LIM := by unfold LIM; omega
        have hp : putS l n d = l.take i ++ [(n, d)] ++ l.drop i := by rw [drop_cons hf]; simp [putS, nd, c4, ni]
        have hc : List.map fV (l.take i) ++ [[V.s (.string n), V.s (.string d)]] ++ List.map fV (l.drop i) = (putS l n d).map fV := by rw [hp]; simp [fV]
        have hn : i + 1 + (l.length - i) = (putS l n d).length := by rw [hp]; simp; omega
        rw [hn] at r1
        have pk : (0 : Int) ≤ ((i : Nat) : Int) ∧ ((i : Nat) : Int) ≤ l.length := by omega
        simp +contextual (maxSteps := 2000000) (disch := ((try unfold LIM at *); omega)) only [↓bcase_true, ↓bcase_false, WA, simprocAttr, wrap_i64, List.length_map, c2, hf, fV, b3, c4, cast_succ, Nat.sub_zero, ← List.map_take, ← List.map_drop, hA, hil, pk, r0, leafs_map fV_ok, hB, hBl, r1, takeTo, List.length_append, hc, hn, pi, List.take_length]
        intros
        refine NewV.fin (b := 4) ?_ rfl (by first | assumption | omega)
        rfl
  · have e : i = l.length := by omega
    have pi : (0 : Int) ≤ i := by omega
    have ni : l.take i = l.takeWhile fun f => ltB f.1 n := by rw [show i = (l.takeWhile fun f => ltB f.1 n).length by omega]; exact e1
    have nd : l.dropWhile (fun f => ltB f.1 n) = [] := by rw [← e2]; exact List.drop_eq_nil_of_le (by omega)
    have hA : (l.take i).length = i := by rw [List.length_take]; omega
    have hil : (i : Int) ≤ l.length := by omega
    have r0 : i * 32 ≤ 140737488355328 ∧ i ≤ LIM ∧ (i + 1) * 32 ≤ 140737488355328 ∧ i + 1 ≤ LIM := by unfold LIM; omega
    have hB : List.take (l.length - i) (l.drop i) = l.drop i := List.take_of_length_le (by simp)
    have hBl : (l.drop i).length = l.length - i := by simp
    have r1 : (i + 1 + (l.length - i)) * 32 ≤ 140737488355328 ∧ i + 1 + (l.length - i) ≤ LIM := by unfold LIM; omega
    have hp : putS l n d = l.take i ++ [(n, d)] ++ l.drop i := by rw [List.drop_eq_nil_of_le (show l.length ≤ i by omega)]; simp [putS, nd, ni]
    have hc : List.map fV (l.take i) ++ [[V.s (.string n), V.s (.string d)]] ++ List.map fV (l.drop i) = (putS l n d).map fV := by rw [hp]; simp [fV]
    have hn : i + 1 + (l.length - i) = (putS l n d).length := by rw [hp]; simp; omega
    rw [hn] at r1
    have pk : (0 : Int) ≤ ((i : Nat) : Int) ∧ ((i : Nat) : Int) ≤ l.length := by omega
    simp +contextual (maxSteps := 2000000) (disch := ((try unfold LIM at *); omega)) only [↓bcase_true, ↓bcase_false, WA, simprocAttr, wrap_i64, List.length_map, c2, fV, cast_succ, Nat.sub_zero, ← List.map_take, ← List.map_drop, hA, hil, pk, r0, leafs_map fV_ok, hB, hBl, r1, takeTo, List.length_append, hc, hn, pi, List.take_length]
    intros
    refine NewV.fin (b := 4) ?_ rfl (by first | assumption | omega)
    rfl
theorem new71 (l : List Fl) (o : Opn) (hl : l.length ≤ 1048576) (hs : (getS l o.2.1).1.size + o.2.2.size ≤ 9223372036854775807) : NewV C 71 [.f 2 (l.map fV), .agg (oV o)] 2 ((doS l o).map fV) := by
  refine calls_of_run Try.func71 rfl (by kernel_rfl) (by kernel_rfl) (by simp) 1000 ?_
  obtain ⟨k, n, d⟩ := o
  simp +contextual (maxSteps := 2000000) (disch := ((try unfold LIM at *); omega)) only [↓bcase_true, ↓bcase_false, WA, simprocAttr, wrap_i64, oV]
  refine CallThen.pure (walk97 l n) 1000 ?_
  by_cases c1 : k = 1
  · simp +contextual (maxSteps := 2000000) (disch := ((try unfold LIM at *); omega)) only [↓bcase_true, ↓bcase_false, WA, simprocAttr, wrap_i64, c1, doS]
    refine CallThen.new (new106 l n d hl) (nrs_map fV_nr _) (fun _ => rfl) 1000 fun cp hc => ?_
    rw [List.length_map] at hc
    simp +contextual (maxSteps := 2000000) (disch := ((try unfold LIM at *); omega)) only [↓bcase_true, ↓bcase_false, WA, simprocAttr, wrap_i64, List.length_map]
    refine NewV.fin (b := 1) ?_ rfl hc
    rfl
  by_cases c2 : k = 2
  · have hs' : (getS l n).1.size + d.size ≤ LIM := hs
    simp +contextual (maxSteps := 2000000) (disch := ((try unfold LIM at *); omega)) only [↓bcase_true, ↓bcase_false, WA, simprocAttr, wrap_i64, c2, doS, hs']
    refine CallThen.new (new106 l n _ hl) (nrs_map fV_nr _) (fun _ => rfl) 1000 fun cp hc => ?_
    rw [List.length_map] at hc
    simp +contextual (maxSteps := 2000000) (disch := ((try unfold LIM at *); omega)) only [↓bcase_true, ↓bcase_false, WA, simprocAttr, wrap_i64, List.length_map]
    refine NewV.fin (b := 1) ?_ rfl hc
    rfl
  by_cases c3 : k = 3
  · cases c4 : (getS l n).2 with
    | true =>
      simp +contextual (maxSteps := 2000000) (disch := ((try unfold LIM at *); omega)) only [↓bcase_true, ↓bcase_false, WA, simprocAttr, wrap_i64, c3, doS, c4]
      refine DrawThen.of 1000 [] (.old 0 (.old 1 (.old 2 (.old 4 (.old 5 (.old 6 (.go 3 (.go 7 (.new 8 .done))))))))) (panFree_body _ _) (by kernel_rfl) (by kernel_rfl) (by kernel_rfl) ?_
      simp +contextual (maxSteps := 2000000) (disch := ((try unfold LIM at *); omega)) only [↓bcase_true, ↓bcase_false, WA, simprocAttr, wrap_i64]
      refine DCall.new (new107 l n hl) (nrs_map fV_nr _) (fun _ => rfl) 1000 (.go 7 (.new 8 .done)) (by kernel_rfl) fun cp hc => ?_
      rw [List.length_map] at hc
      simp +contextual (maxSteps := 2000000) (disch := ((try unfold LIM at *); omega)) only [↓bcase_true, ↓bcase_false, WA, simprocAttr, wrap_i64, List.length_map]
      refine DCall.newB (new106 (dropS l n) d (getS l n).1 (Nat.le_trans (len_drop l n) hl)) (plains_map fV_plain _) 6 ?_ 1000 (.new 8 .done) (by kernel_rfl) fun cp' hc' => ?_
      · simp +contextual (maxSteps := 2000000) (disch := ((try unfold LIM at *); omega)) only [↓bcase_true, ↓bcase_false, WA, simprocAttr, wrap_i64, List.length_map, own_fl, fV_frz, Nat.not_lt_zero]
      rw [List.length_map] at hc'
      simp +contextual (maxSteps := 2000000) (disch := ((try unfold LIM at *); omega)) only [↓bcase_true, ↓bcase_false, WA, simprocAttr, wrap_i64, List.length_map]
      refine NewV.fin (b := 2) ?_ rfl hc'
      rfl
    | false =>
      have q1 : l.length * 32 ≤ 140737488355328 ∧ l.length ≤ LIM := by unfold LIM; omega
      simp +contextual (maxSteps := 2000000) (disch := ((try unfold LIM at *); omega)) only [↓bcase_true, ↓bcase_false, WA, simprocAttr, wrap_i64, c3, doS, c4, leafs_map fV_ok, List.length_map, q1, takeTo, List.take_length, take_map_len]
      intro cap' hc _
      refine NewV.fin (b := 2) ?_ rfl hc
      rfl
  by_cases c5 : k = 4
  · simp +contextual (maxSteps := 2000000) (disch := ((try unfold LIM at *); omega)) only [↓bcase_true, ↓bcase_false, WA, simprocAttr, wrap_i64, c5, doS]
    refine CallThen.new (new107 l n hl) (nrs_map fV_nr _) (fun _ => rfl) 1000 fun cp hc => ?_
    rw [List.length_map] at hc
    simp +contextual (maxSteps := 2000000) (disch := ((try unfold LIM at *); omega)) only [↓bcase_true, ↓bcase_false, WA, simprocAttr, wrap_i64, List.length_map]
    refine NewV.fin (b := 1) ?_ rfl hc
    rfl
  · have q1 : l.length * 32 ≤ 140737488355328 ∧ l.length ≤ LIM := by unfold LIM; omega
    simp +contextual (maxSteps := 2000000) (disch := ((try unfold LIM at *); omega)) only [↓bcase_true, ↓bcase_false, WA, simprocAttr, wrap_i64, c1, c2, c3, c5, doS, leafs_map fV_ok, List.length_map, q1, takeTo, List.take_length, take_map_len]
    intro cap' hc _
    refine NewV.fin (b := 2) ?_ rfl hc
    rfl
end Go.Proofs.Ytpcgnmoogjahbaa
/- part D33 -/
set_option linter.unusedVariables false
set_option linter.unusedSimpArgs false
set_option maxRecDepth 100000
namespace Go.Proofs.Ytpcgnmoogjahbaa
open Go Go.W Go.RowKit
theorem new100 (fl : List Fl) (ol : List Opn) (cap n : Int) (g : Good fl ol cap) (hs : ∀ o ∈ ol, oneO o ≤ 1048576) : NewV C 100 [.f 2 (fl.map fV), .f 3 (ol.map oV), .s (.int .i64 n)] 2 ((seeS fl ol n.toNat).map fV) := by
  refine calls_of_run Try.func100 rfl (by kernel_rfl) (by kernel_rfl) (by simp) 1000 ?_
  have hf := g.fl
  have hol := g.late
  have q1 : fl.length * 32 ≤ 140737488355328 ∧ fl.length ≤ LIM := by unfold LIM; omega
  simp +contextual (maxSteps := 2000000) (disch := ((try unfold LIM at *); omega)) only [↓bcase_true, ↓bcase_false, WA, simprocAttr, wrap_i64, List.length_map, leafs_map fV_ok, q1, takeTo, List.take_length, take_map_len]
  intro cap' hc _
  refine LoopThen.own (ι := Nat × Nat) (fun p => (p.1 ≤ n.toNat ∧ p.1 ≤ ol.length) ∧ (seeS fl ol p.1).length ≤ p.2) (fun p => [(0, .sl 0 0 (seeS fl ol p.1).length p.2), (1, .f 3 (ol.map oV)), (2, .s (.int .i64 n)), (7, .s (.int .i64 p.1))])
    (fun p => [⟨(seeS fl ol p.1).map fV, 2, p.2, true⟩]) (fun p => ol.length - p.1) 1000 1000
    ⟨(0, cap'), ⟨⟨Nat.zero_le _, Nat.zero_le _⟩, hc⟩, [1], by simp, by simp +contextual (maxSteps := 2000000) (disch := ((try unfold LIM at *); omega)) only [↓bcase_true, ↓bcase_false, WA, simprocAttr, wrap_i64, see_zero, nrs_map fV_nr, true_or], by simp +contextual (maxSteps := 2000000) (disch := ((try unfold LIM at *); omega)) only [↓bcase_true, ↓bcase_false, WA, simprocAttr, wrap_i64, see_zero]⟩ ?_
  rintro ⟨i, cp⟩ ⟨⟨p1, p2⟩, pc⟩
  simp only at p1 p2 pc
  by_cases d1 : (i : Int) < n
  rotate_left
  · have e : seeS fl ol i = seeS fl ol n.toNat := by rw [show i = n.toNat by omega]
    rw [e] at pc ⊢
    simp +contextual (maxSteps := 2000000) (disch := ((try unfold LIM at *); omega)) only [↓bcase_true, ↓bcase_false, WA, simprocAttr, wrap_i64, d1]
    refine NewV.fin (b := 0) ?_ rfl pc
    rfl
  by_cases d2 : (i : Int) < ol.length
  · obtain ⟨o, ho⟩ := get_lt d2
    have pi : (0 : Int) ≤ i := by omega
    simp +contextual (maxSteps := 2000000) (disch := ((try unfold LIM at *); omega)) only [↓bcase_true, ↓bcase_false, WA, simprocAttr, wrap_i64, List.length_map, d1, d2, ho, pi, oV]
    intro _
    have hz := (g.size i).1
    refine CallThen.newB (new71 (seeS fl ol i) o (by omega) (g.step hs ho)) (plains_map fV_plain _) 6 ?_ 1000 fun cp' hc' => ?_
    · simp +contextual (maxSteps := 2000000) (disch := ((try unfold LIM at *); omega)) only [↓bcase_true, ↓bcase_false, WA, simprocAttr, wrap_i64, List.length_map, own_fl, fV_frz, Nat.not_lt_zero, oV]
    rw [List.length_map] at hc'
    simp +contextual (maxSteps := 2000000) (disch := ((try unfold LIM at *); omega)) only [↓bcase_true, ↓bcase_false, WA, simprocAttr, wrap_i64, List.length_map, ← see_succ ho, cast_succ]
    rw [← see_succ ho] at hc'
    exact ⟨(i + 1, cp'), ⟨⟨⟨by omega, by omega⟩, hc'⟩, by simp only; omega⟩, [1], by simp, by simp +contextual (maxSteps := 2000000) (disch := ((try unfold LIM at *); omega)) only [↓bcase_true, ↓bcase_false, WA, simprocAttr, wrap_i64, true_or, nrs_map fV_nr], by simp +contextual (maxSteps := 2000000) (disch := ((try unfold LIM at *); omega)) only [↓bcase_true, ↓bcase_false, WA, simprocAttr, wrap_i64, List.length_map]⟩
  · have e : seeS fl ol i = seeS fl ol n.toNat := by rw [see_all (i := i) (by omega), see_all (i := n.toNat) (by omega)]
    rw [e] at pc ⊢
    simp +contextual (maxSteps := 2000000) (disch := ((try unfold LIM at *); omega)) only [↓bcase_true, ↓bcase_false, WA, simprocAttr, wrap_i64, List.length_map, d1, d2]
    intros
    refine NewV.fin (b := 0) ?_ rfl pc
    rfl
theorem new86 (fl : List Fl) (ol : List Opn) (cap : Int) (g : Good fl ol cap) (hs : ∀ o ∈ ol, oneO o ≤ 1048576) : NewV C 86 [.agg (dV fl ol cap)] 2 ((seeS fl ol ol.length).map fV) := by
  refine calls_of_run Try.func86 rfl (by kernel_rfl) (by kernel_rfl) (by simp) 1000 ?_
  have hol := g.late
  have w := new100 fl ol cap ol.length g hs
  rw [Int.toNat_natCast] at w
  simp +contextual (maxSteps := 2000000) (disch := ((try unfold LIM at *); omega)) only [↓bcase_true, ↓bcase_false, WA, simprocAttr, wrap_i64, dV, List.length_map]
  intro _
  refine CallThen.new w (nrs_map fV_nr _) (fun _ => rfl) 1000 fun cp hc => ?_
  rw [List.length_map] at hc
  simp +contextual (maxSteps := 2000000) (disch := ((try unfold LIM at *); omega)) only [↓bcase_true, ↓bcase_false, WA, simprocAttr, wrap_i64, List.length_map]
  refine NewV.fin (b := 1) ?_ rfl hc
  rfl
theorem NewD.fin {fl : List Fl} {ol : List Opn} {cap : Int} {b1 b2 c1 c2 : Nat} {h : Go.W.H} (h1 : h[b1]? = some ⟨fl.map fV, 2, c1, true⟩) (h2 : h[b2]? = some ⟨ol.map oV, 3, c2, true⟩) (hne : b1 ≠ b2) (hc1 : fl.length ≤ c1) (hc2 : ol.length ≤ c2) :
    Up 0 (fun res h' => ∃ c1 c2, fl.length ≤ c1 ∧ ol.length ≤ c2 ∧ res = .ret (.agg (dO fl ol cap 0 c1 1 c2)) ∧ h' = dH fl ol c1 c2) (.ret (.agg [.sl b1 0 fl.length c1, .sl b2 0 ol.length c2, .s (.int .i64 cap)])) h := by
  refine Up.gc (.agg (dO fl ol cap 0 c1 1 c2)) [b1, b2] (dH fl ol c1 c2) (by simp [hne]) ?_ ?_ ⟨c1, c2, hc1, hc2, rfl, rfl⟩
  · exact ⟨.inl ⟨nrs_map fV_nr _, h1⟩, .inl ⟨nrs_map oV_nr _, h2⟩, trivial⟩
  · rfl
theorem new85 (fl : List Fl) (ol : List Opn) (cap : Int) (hf : fl.length ≤ 1048576) (ho : ol.length ≤ 1048576) : NewD 85 [.agg (dV fl ol cap)] fl ol cap := by
  refine calls_of_run Try.func85 rfl (by kernel_rfl) (by kernel_rfl) (by simp) 1000 ?_
  simp +contextual (maxSteps := 2000000) (disch := ((try unfold LIM at *); omega)) only [↓bcase_true, ↓bcase_false, WA, simprocAttr, wrap_i64, dV]
  refine DrawThen.of 1000 [1] (.old 1 (.old 2 (.old 5 (.old 6 (.old 8 (.old 9 (.or 0 (.or 3 (.go 4 (.go 7 (.new 10 (.go 11 .done)))) (.go 4 (.go 3 (.go 7 (.new 10 (.go 11 .done)))))) (.go 4 (.go 0 (.go 3 (.go 7 (.new 10 (.go 11 .done))))))))))))) (panFree_body _ _) (by kernel_rfl) (by kernel_rfl) (by kernel_rfl) ?_
  have q1 : fl.length * 32 ≤ 140737488355328 ∧ fl.length ≤ LIM := by unfold LIM; omega
  have q2 : ol.length * 40 ≤ 140737488355328 ∧ ol.length ≤ LIM := by unfold LIM; omega
  simp +contextual (maxSteps := 2000000) (disch := ((try unfold LIM at *); omega)) only [↓bcase_true, ↓bcase_false, WA, simprocAttr, wrap_i64, dV, leafs_map fV_ok, leafs_map oV_ok, List.length_map, q1, q2, takeTo, List.take_length, take_map_len]
  repeat' apply And.intro
  all_goals
    intro c1 hc1 _ c2 hc2 _
    refine NewD.fin ?_ ?_ (by simp) hc1 hc2 <;> rfl
theorem walk37 (fl : List Fl) (ol : List Opn) (cap : Int) (o : Opn) (S : Sized fl ol 1048576) (ho : oneO o ≤ 1048576) (g : Good fl ol cap) (hd : diskOk fl ol cap = true) :
    PureV C 37 [.agg (dV fl ol cap), .agg (oV o)] (.tup [.agg (dV fl (doOl fl ol cap o) cap), .s (.bool (goB fl ol cap o))]) := by
  refine pure_of_run Try.func37 rfl (by kernel_rfl) (by kernel_rfl) (by simp) (fun _ => rfl) (fun _ => rfl) 6 1000 ?_
  simp +contextual (maxSteps := 2000000) (disch := ((try unfold LIM at *); omega)) only [↓bcase_true, ↓bcase_false, WA, simprocAttr, wrap_i64, dV, oV]
  refine CallThen.pure (walk31 fl ol cap S.f S.o S.b S.s) 1000 ?_
  simp +contextual (maxSteps := 2000000) (disch := ((try unfold LIM at *); omega)) only [↓bcase_true, ↓bcase_false, WA, simprocAttr, wrap_i64, dV, hd]
  refine CallThen.newD (new85 fl ol cap S.f S.o) 6 (by simp +contextual (maxSteps := 2000000) (disch := ((try unfold LIM at *); omega)) only [↓bcase_true, ↓bcase_false, WA, simprocAttr, wrap_i64, dV, frzs_f]) 1000 fun c1 c2 hc1 hc2 => ?_
  simp +contextual (maxSteps := 2000000) (disch := ((try unfold LIM at *); omega)) only [↓bcase_true, ↓bcase_false, WA, simprocAttr, wrap_i64, dO, dH]
  refine DrawThen.of 1000 [3, 4] (.old 0 (.old 1 (.old 2 (.old 3 (.old 4 (.old 5 (.old 6 (.old 7 (.old 8 (.old 9 (.old 10 (.old 11 (.old 12 (.old 13 (.old 14 (.old 15 (.old 17 (.old 19 (.old 20 (.go 16 (.go 18 (.go 21 (.new 22 (.new 23 .done)))))))))))))))))))))))) (panFree_pure _ _ _) (by kernel_rfl) (by kernel_rfl) (by kernel_rfl) ?_
  by_cases e1 : o.1 < 1
  · have hb : goB fl ol cap o = false := by simp [goB]; omega
    have ed : doOl fl ol cap o = ol := by simp [doOl, hb]
    rw [ed, hb]
    simp +contextual (maxSteps := 2000000) (disch := ((try unfold LIM at *); omega)) only [↓bcase_true, ↓bcase_false, WA, simprocAttr, wrap_i64, dV, e1, List.length_map, own_fl, own_ol, fV_frz, oV_frz, Nat.not_lt_zero]
  by_cases e2 : 4 < o.1
  · have hb : goB fl ol cap o = false := by simp [goB]; omega
    have ed : doOl fl ol cap o = ol := by simp [doOl, hb]
    rw [ed, hb]
    simp +contextual (maxSteps := 2000000) (disch := ((try unfold LIM at *); omega)) only [↓bcase_true, ↓bcase_false, WA, simprocAttr, wrap_i64, dV, e1, e2, List.length_map, own_fl, own_ol, fV_frz, oV_frz, Nat.not_lt_zero]
  have e12 : 1 ≤ o.1 ∧ o.1 ≤ 4 := by omega
  by_cases e3 : (ol.length : Int) = 2000
  · have hb : goB fl ol cap o = false := by have : ol.length = 2000 := by omega
                                            simp [goB, this]
    have ed : doOl fl ol cap o = ol := by simp [doOl, hb]
    rw [ed, hb]
    simp +contextual (maxSteps := 2000000) (disch := ((try unfold LIM at *); omega)) only [↓bcase_true, ↓bcase_false, WA, simprocAttr, wrap_i64, dV, e1, e2, e3, List.length_map, own_fl, own_ol, fV_frz, oV_frz, Nat.not_lt_zero]
  generalize hl : seeS fl ol ol.length = l at *
  have pa : ascS l = true := hl ▸ g.asc _
  have sz : l.length ≤ 20 ∧ sizeF l ≤ 1000000 := hl ▸ g.size _
  have w86 := new86 fl ol cap g S.s
  rw [hl] at w86
  simp +contextual (maxSteps := 2000000) (disch := ((try unfold LIM at *); omega)) only [↓bcase_true, ↓bcase_false, WA, simprocAttr, wrap_i64, oV, e1, e2, e3, List.length_map]
  refine DCall.newB w86 (plains_map fV_plain _) 6 ?_ 1000 (.go 18 (.go 21 (.new 22 (.new 23 .done)))) (by kernel_rfl) fun cp hc => ?_
  · simp +contextual (maxSteps := 2000000) (disch := ((try unfold LIM at *); omega)) only [↓bcase_true, ↓bcase_false, WA, simprocAttr, wrap_i64, dV, List.length_map, own_fl, own_ol, fV_frz, oV_frz, Nat.not_lt_zero]
  rw [List.length_map] at hc
  have b2 := sizeF_get l o.2.1
  simp only [oneO] at ho
  have b1 := do_bound l o
  simp +contextual (maxSteps := 2000000) (disch := ((try unfold LIM at *); omega)) only [↓bcase_true, ↓bcase_false, WA, simprocAttr, wrap_i64, oV, List.length_map]
  refine DCall.newB (new71 l o (by omega) (by omega)) (plains_map fV_plain _) 6 ?_ 1000 (.go 21 (.new 22 (.new 23 .done))) (by kernel_rfl) fun cp' hc' => ?_
  · simp +contextual (maxSteps := 2000000) (disch := ((try unfold LIM at *); omega)) only [↓bcase_true, ↓bcase_false, WA, simprocAttr, wrap_i64, List.length_map, own_fl, fV_frz, Nat.not_lt_zero, oV]
  rw [List.length_map] at hc'
  simp +contextual (maxSteps := 2000000) (disch := ((try unfold LIM at *); omega)) only [↓bcase_true, ↓bcase_false, WA, simprocAttr, wrap_i64, List.length_map]
  refine DCall.borrow (walk70 (doS l o) cap (by omega)) (flat_s _) 6 ?_ 1000 (.new 22 (.new 23 .done)) (by kernel_rfl) ?_
  · simp +contextual (maxSteps := 2000000) (disch := ((try unfold LIM at *); omega)) only [↓bcase_true, ↓bcase_false, WA, simprocAttr, wrap_i64, List.length_map, fV_frz, Nat.not_lt_zero, own_fl]
  by_cases e4 : fits (doS l o) cap
  rotate_left
  · have hb : goB fl ol cap o = false := by simp [goB, hl, e4]
    have ed : doOl fl ol cap o = ol := by simp [doOl, hb]
    rw [ed, hb]
    simp +contextual (maxSteps := 2000000) (disch := ((try unfold LIM at *); omega)) only [↓bcase_true, ↓bcase_false, WA, simprocAttr, wrap_i64, e4, List.length_map, own_fl, own_ol, fV_frz, oV_frz, Nat.not_lt_zero]
  have hb : goB fl ol cap o = true := by simp [goB, hl, e12, e4]; omega
  have ed : doOl fl ol cap o = ol ++ [o] := by simp [doOl, hb]
  rw [ed, hb]
  have hol := g.late
  have q1 : (ol.length + 1) * 40 ≤ 140737488355328 := by omega
  have q2 : ol.length + 1 ≤ LIM := by unfold LIM; omega
  have hm : List.map oV ol ++ [[.s (.int .i64 o.1), .s (.string o.2.1), .s (.string o.2.2)]] = (ol ++ [o]).map oV := by simp [oV]
  have hl1 : ol.length + 1 = (ol ++ [o]).length := by simp
  have hle : ol.length + 1 ≤ (ol ++ [o]).length := by simp
  have tk : List.take (ol.length + 1) (List.map oV (ol ++ [o])) = (ol ++ [o]).map oV := List.take_of_length_le (by simp)
  simp +contextual (maxSteps := 2000000) (disch := ((try unfold LIM at *); omega)) only [↓bcase_true, ↓bcase_false, WA, simprocAttr, wrap_i64, e4, leafs_map oV_ok, List.length_map, q1, q2, takeTo, List.take_length, take_map_len, hm, hle, tk, own_fl, own_ol, fV_frz, oV_frz, Nat.not_lt_zero]
/-- What an operation makes of a disk. -/
def opF (fl : List Fl) (ol : List Opn) (cap : Int) : List Fl := if diskOk fl ol cap = true then fl else []
def opO (fl : List Fl) (ol : List Opn) (cap : Int) (o : Opn) : List Opn := if diskOk fl ol cap = true then doOl fl ol cap o else []
def opB (fl : List Fl) (ol : List Opn) (cap : Int) (o : Opn) : Bool := diskOk fl ol cap && goB fl ol cap o
theorem spec37 (fl : List Fl) (ol : List Opn) (cap : Int) (o : Opn) (S : Sized fl ol 1048576) (ho : oneO o ≤ 1048576) :
    PureV C 37 [.agg (dV fl ol cap), .agg (oV o)] (.tup [.agg (dV (opF fl ol cap) (opO fl ol cap o) (fallC fl ol cap)), .s (.bool (opB fl ol cap o))]) := by
  cases c : diskOk fl ol cap with
  | true =>
    have e1 : opF fl ol cap = fl := by simp [opF, c]
    have e2 : opO fl ol cap o = doOl fl ol cap o := by simp [opO, c]
    have e3 : opB fl ol cap o = goB fl ol cap o := by simp [opB, c]
    have e4 : fallC fl ol cap = cap := by simp [fallC, c]
    rw [e1, e2, e3, e4]
    exact walk37 fl ol cap o S ho (good_of c) c
  | false =>
    have e1 : opF fl ol cap = [] := by simp [opF, c]
    have e2 : opO fl ol cap o = [] := by simp [opO, c]
    have e3 : opB fl ol cap o = false := by simp [opB, c]
    have e4 : fallC fl ol cap = 0 := by simp [fallC, c]
    rw [e1, e2, e3, e4]
    refine PureV.weak (r := .tup [.agg [.z, .z, .s (.int .i64 0)], .s (.bool false)]) ?_ (wkV_tup ⟨wkQ_agg ⟨wkC_z 2, wkC_z 3, wkC_refl _, trivial⟩, wkQ_refl _, trivial⟩) (fun _ => rfl)
    refine pure_of_run Try.func37 rfl (by kernel_rfl) (by kernel_rfl) (by simp) (fun _ => rfl) (fun _ => rfl) 6 1000 ?_
    simp +contextual (maxSteps := 2000000) (disch := ((try unfold LIM at *); omega)) only [↓bcase_true, ↓bcase_false, WA, simprocAttr, wrap_i64, dV, oV]
    refine CallThen.pure (walk31 fl ol cap S.f S.o S.b S.s) 1000 ?_
    simp +contextual (maxSteps := 2000000) (disch := ((try unfold LIM at *); omega)) only [↓bcase_true, ↓bcase_false, WA, simprocAttr, wrap_i64, dV, c]
def NewDB (f : Nat) (args : List V) (fl : List Fl) (ol : List Opn) (cap : Int) (b : Bool) : Prop :=
  CallsV C f args [] fun res h' => ∃ c1 c2, fl.length ≤ c1 ∧ ol.length ≤ c2 ∧ res = .ret (.tup [.agg (dO fl ol cap 0 c1 1 c2), .s (.bool b)]) ∧ h' = dH fl ol c1 c2
theorem NewDB.at_ {f : Nat} {args args' : List V} {fl : List Fl} {ol : List Opn} {cap : Int} {b : Bool} (p : NewDB f args fl ol cap b) (d : Nat) (H : Go.W.H) (ha : args = args'.map (frz 0 d H)) :
    CallsV C f args' H fun res h' => ∃ c1 c2, fl.length ≤ c1 ∧ ol.length ≤ c2 ∧ res = .ret (.tup [.agg (dO fl ol cap H.length c1 (H.length + 1) c2), .s (.bool b)]) ∧ h' = H ++ dH fl ol c1 c2 := by
  refine (CallsV.lend p ?_ d H ha).mono fun res h' ⟨r, h1, ⟨c1, c2, q1, q2, q3, q4⟩, q5, q6⟩ => ⟨c1, c2, q1, q2, ?_, by rw [q6, q4]⟩
  · rintro r h' ⟨c1, c2, q1, q2, rfl, rfl⟩
    exact ⟨rfl, by simp [dH, plains_map fV_plain, plains_map oV_plain]⟩
  · rw [q5, q3]; rfl
theorem CallThen.newDB {N n0 : Nat} {Q : QT} {k : List It} {τ : Tau} {h : Go.W.H} {f : Nat} {args args' : List V} {fl : List Fl} {ol : List Opn} {cap : Int} {b : Bool} {d : Option Nat} (p : NewDB f args fl ol cap b) (dd : Nat) (ha : args = args'.map (frz 0 dd h)) (m : Nat)
    (hr : ∀ c1 c2, fl.length ≤ c1 → ol.length ≤ c2 → Run C N n0 m Q k (upo d (.tup [.agg (dO fl ol cap h.length c1 (h.length + 1) c2), .s (.bool b)]) τ) (h ++ dH fl ol c1 c2)) : CallThen C N n0 Q f args' d k τ h :=
  CallThen.of m (p.at_ dd h ha) fun res h' ⟨c1, c2, e1, e2, e3, e4⟩ => by subst e3; subst e4; exact hr c1 c2 e1 e2
theorem DCall.newDB {N n0 : Nat} {Q : QT} {k : List It} {τ : Tau} {h : Go.W.H} {h0 : Go.W.H} {exc : List Nat} {ops : Array Oper} {fuel : Nat} {listed : Array Bool} {f : Nat} {args args' : List V} {fl : List Fl} {ol : List Opn} {cap : Int} {b : Bool} {d : Option Nat} {nw : List Nat} (p : NewDB f args fl ol cap b) (dd : Nat) (ha : args = args'.map (frz 0 dd (hide h0 exc h))) (m : Nat) (td : TD) (hd : drawOk ops [] listed td = true)
    (hr : ∀ c1 c2, fl.length ≤ c1 → ol.length ≤ c2 → RunD C N n0 m Q k h0 exc ops fuel listed td (addN d nw) (upo d (.tup [.agg (dO fl ol cap (hide h0 exc h).length c1 ((hide h0 exc h).length + 1) c2), .s (.bool b)]) τ) (show_ h0 exc h (hide h0 exc h ++ dH fl ol c1 c2))) : DCall C N n0 Q h0 exc ops fuel listed k f args' d nw τ h :=
  DCall.of m td hd (p.at_ dd _ ha) fun res h' ⟨c1, c2, e1, e2, e3, e4⟩ => by subst e3; subst e4; exact hr c1 c2 e1 e2
theorem impl36 (fl : List Fl) (ol : List Opn) (cap : Int) (o : Opn) (S : Sized fl ol 1048576) (ho : oneO o ≤ 1048576) : NewDB 36 [.agg (dV fl ol cap), .agg (oV o)] (opF fl ol cap) (opO fl ol cap o) (fallC fl ol cap) (opB fl ol cap o) := by
  cases c : diskOk fl ol cap with
  | true =>
    have e1 : opF fl ol cap = fl := by simp [opF, c]
    have e2 : opO fl ol cap o = doOl fl ol cap o := by simp [opO, c]
    have e3 : opB fl ol cap o = goB fl ol cap o := by simp [opB, c]
    have e4 : fallC fl ol cap = cap := by simp [fallC, c]
    rw [e1, e2, e3, e4]
    exact new36 fl ol cap o S ho (good_of c) c
  | false =>
    have e1 : opF fl ol cap = [] := by simp [opF, c]
    have e2 : opO fl ol cap o = [] := by simp [opO, c]
    have e3 : opB fl ol cap o = false := by simp [opB, c]
    have e4 : fallC fl ol cap = 0 := by simp [fallC, c]
    rw [e1, e2, e3, e4]
    refine calls_of_run Try.func36 rfl (by kernel_rfl) (by kernel_rfl) (by simp) 1000 ?_
    simp +contextual (maxSteps := 2000000) (disch := ((try unfold LIM at *); omega)) only [↓bcase_true, ↓bcase_false, WA, simprocAttr, wrap_i64, dV, oV]
    refine CallThen.pure (walk33 fl ol cap S.f S.o S.b S.s) 1000 ?_
    simp +contextual (maxSteps := 2000000) (disch := ((try unfold LIM at *); omega)) only [↓bcase_true, ↓bcase_false, WA, simprocAttr, wrap_i64, dV, c]
    refine Up.arr (Arr.nilV 2) (.inr ⟨_, [.agg [.sl 3 0 0 0, .z, .s (.int .i64 0)], .s (.bool false)], rfl, rfl, .inr ⟨_, _, rfl, rfl, .inr ⟨rfl, rfl⟩, .inl rfl, .inl rfl, trivial⟩, .inl rfl, trivial⟩) ?_
    refine Up.arr (Arr.nilV 3) (.inr ⟨_, [.agg [.sl 3 0 0 0, .sl 4 0 0 0, .s (.int .i64 0)], .s (.bool false)], rfl, rfl, .inr ⟨_, _, rfl, rfl, .inl rfl, .inr ⟨rfl, rfl⟩, .inl rfl, trivial⟩, .inl rfl, trivial⟩) ?_
    refine Up.gc (.tup [.agg (dO [] [] 0 0 0 1 0), .s (.bool false)]) [3, 4] (dH [] [] 0 0) (by simp) ?_ ?_ ⟨0, 0, Nat.le_refl _, Nat.le_refl _, rfl, rfl⟩
    · exact ⟨.inl ⟨rfl, rfl⟩, .inl ⟨rfl, rfl⟩, trivial⟩
    · rfl
end Go.Proofs.Ytpcgnmoogjahbaa
/- part W38 -/
set_option linter.unusedVariables false
set_option linter.unusedSimpArgs false
namespace Go.W
open Go Go.RowKit

/-! ### Ways that come together again: what follows is walked once -/
section
variable {C : Cx} {N m n0 : Nat} {Q Q' : QT} {k : List It} {τ : Tau} {h : H}
theorem WC.join {c : Code} (hc : WC C N n0 c Q τ h) (hn : ∀ τ h, Q .normal τ h → Goes n0 (fun τ' h' => Q' .normal τ' h') τ h) (ho : ∀ x τ h, x ≠ .normal → Q x τ h → Q' x τ h) : WC C N n0 c Q' τ h := by
  intro S w0 φ a w r0 r1 r2 r3 r4
  refine wp_mono (hc S w0 φ a w r0 r1 r2 r3 r4) fun e a' w' p => ?_
  obtain ⟨x, τ', h', φ', p1, p2, p3, p4, p5, p6, p7, p8⟩ := p
  cases x with
  | normal =>
    obtain ⟨τ'', h'', M, ar, ht, hI⟩ := hn _ _ p8
    obtain ⟨φ'', R'', e'', hn'', m''⟩ := ar S w0 φ' w' p2 p4
    exact ⟨.normal, τ'', h'', φ'', p1, R'', p3.trans e'', hn'', fun t => m'' _ _ _ (ht t) (p5 t), p6, p7, hI⟩
  | exit id => exact ⟨.exit id, τ', h', φ', p1, p2, p3, p4, p5, p6, p7, ho _ _ _ (by simp) p8⟩
  | ret => exact ⟨.ret, τ', h', φ', p1, p2, p3, p4, p5, p6, p7, ho _ _ _ (by simp) p8⟩
  | pan v => exact ⟨.pan v, τ', h', φ', p1, p2, p3, p4, p5, p6, p7, ho _ _ _ (by simp) p8⟩
/-- What is kept where ways come together. -/
def Joint (n0 : Nat) {ι : Type} (P : ι → Prop) (T : ι → List (Nat × V)) (Hp : ι → H) (τ : Tau) (h : H) : Prop :=
  ∃ i, P i ∧ ∃ l : List Nat, (l.Nodup ∧ l.take n0 = List.range n0) ∧ gcL (nm l h.length) h l (Hp i) ∧ keepT τ (nm l h.length) (T i)
theorem Joint.goes {ι : Type} {P : ι → Prop} {T : ι → List (Nat × V)} {Hp : ι → H} (j : Joint n0 P T Hp τ h) : Goes n0 (fun τ' h' => ∃ i, P i ∧ τ' = keepL (T i) ∧ h' = Hp i) τ h := by
  obtain ⟨i, p, l, ⟨q1, q2⟩, q3, q4⟩ := j
  exact Goes.ownN l (T i) (Hp i) q1 q2 q3 q4 ⟨i, p, rfl, rfl⟩
theorem cut_join {c : Code} {ι : Type} {P : ι → Prop} {T : ι → List (Nat × V)} {Hp : ι → H} (hk : k.all (itOk N) = true) (h1 : WC C N n0 c (loopN C N n0 m Q k (Joint n0 P T Hp)) τ h)
    (h2 : ∀ i, P i → Run C N n0 m Q k (keepL (T i)) (Hp i)) : WC C N n0 c (SemK C N n0 Q k) τ h := by
  refine WC.join h1 (fun τ h q => ?_) fun x τ' h' hx q => ?_
  · obtain ⟨τ', h', M, a, ht, i, p, rfl, rfl⟩ := Joint.goes q
    exact ⟨_, _, M, a, ht, Run_sound m Q k _ _ hk (h2 i p)⟩
  · cases x with
    | normal => exact absurd rfl hx
    | exit id =>
      refine semK_exit ?_
      simp only [loopN] at q
      cases hp : popTo id k with
      | none => rw [hp] at q; exact q
      | some k' => rw [hp] at q; exact Run_sound m Q k' τ' h' (popTo_ok hp hk) q
    | ret => exact semK_ret q
    | pan v => exact semK_pan q
theorem DrawThen.cut {id : Nat} {ops : Array Oper} {ι : Type} (P : ι → Prop) (T : ι → List (Nat × V)) (Hp : ι → H) (m : Nat) (h1 : DrawThen C N n0 (loopN C N n0 m Q k (Joint n0 P T Hp)) id ops [] τ h)
    (h2 : ∀ i, P i → Run C N n0 m Q k (keepL (T i)) (Hp i)) : DrawThen C N n0 Q id ops k τ h :=
  fun hops hk => cut_join hk (h1 hops rfl) h2
/-- The code c is walked first, by itself. -/
theorem Run.cut {c : Code} {ι : Type} (P : ι → Prop) (T : ι → List (Nat × V)) (Hp : ι → H) (m n : Nat) (hc : itOk N (.code c) = true) (hk : k.all (itOk N) = true) (h1 : Run C N n0 n (loopN C N n0 m Q k (Joint n0 P T Hp)) [.code c] τ h)
    (h2 : ∀ i, P i → Run C N n0 m Q k (keepL (T i)) (Hp i)) : SemK C N n0 Q (.code c :: k) .normal τ h := by
  refine cut_join hk ?_ h2
  exact Run_sound n _ [.code c] τ h (by simp [hc]) h1
theorem joint_of {ι : Type} {P : ι → Prop} {T : ι → List (Nat × V)} {Hp : ι → H} (i : ι) (l : List Nat) (p : P i) (hn : l.Nodup) (ht : l.take n0 = List.range n0) (hg : gcL (nm l h.length) h l (Hp i)) (hk : keepT τ (nm l h.length) (T i)) : Joint n0 P T Hp τ h :=
  ⟨i, p, l, ⟨hn, ht⟩, hg, hk⟩
end
end Go.W
/- part D34 -/
set_option linter.unusedVariables false
set_option linter.unusedSimpArgs false
set_option maxRecDepth 100000
namespace Go.Proofs.Ytpcgnmoogjahbaa
open Go Go.W Go.RowKit
theorem szO_pos {f : Opn} {left : Int} (h : 0 ≤ szO f left) : szO f left = left - oneO f := by
  have : szO f left = szF f.2 left := rfl
  rw [this] at h ⊢
  rw [szF_pos h]; unfold oneO; omega
theorem szD_le {fl : List Fl} {ol : List Opn} {left : Int} (h : 0 ≤ szD fl ol left) : szD fl ol left ≤ left := by rw [szD_pos h]; omega
theorem op_len {fl : List Fl} {ol : List Opn} {cap : Int} {o : Opn} (S : Sized fl ol 1048576) : (opF fl ol cap).length ≤ 1048576 ∧ (opO fl ol cap o).length ≤ 1048576 := by
  have this0 := S.f
  unfold opF opO doOl
  split
  · rename_i c
    have := (good_of c).late
    split
    · simp; omega
    · exact ⟨this0, by omega⟩
  · simp
theorem walk14 (fl : List Fl) (ol : List Opn) (cap : Int) (o : Opn) : PureV C 14 [.agg (dV fl ol cap), .agg (oV o)] (.s (.bool true)) := by
  refine pure_of_run Try.func14 rfl (by kernel_rfl) (by kernel_rfl) (by simp) (fun _ => rfl) (fun _ => rfl) 6 1000 ?_
  simp +contextual (maxSteps := 2000000) (disch := ((try unfold LIM at *); omega)) only [↓bcase_true, ↓bcase_false, WA, simprocAttr, wrap_i64, dV, oV]
  refine CallThen.pure (walk30 fl ol cap 1048576 (by omega) (by omega)) 1000 ?_
  by_cases c : szD fl ol 1048576 < 0
  · simp +contextual (maxSteps := 2000000) (disch := ((try unfold LIM at *); omega)) only [↓bcase_true, ↓bcase_false, WA, simprocAttr, wrap_i64, c]
  have S := sized_of (fl := fl) (ol := ol) (left := 1048576) (by omega) (by omega)
  have hf := S.f
  have ho := S.o
  have hle := szD_le (fl := fl) (ol := ol) (left := 1048576) (by omega)
  simp +contextual (maxSteps := 2000000) (disch := ((try unfold LIM at *); omega)) only [↓bcase_true, ↓bcase_false, WA, simprocAttr, wrap_i64, c]
  refine CallThen.pure (walk57 o (szD fl ol 1048576) (by omega) hle) 1000 ?_
  by_cases c' : szO o (szD fl ol 1048576) < 0
  · simp +contextual (maxSteps := 2000000) (disch := ((try unfold LIM at *); omega)) only [↓bcase_true, ↓bcase_false, WA, simprocAttr, wrap_i64, c']
  have hoo : oneO o ≤ 1048576 := by have := szO_pos (f := o) (left := szD fl ol 1048576) (by omega); omega
  simp +contextual (maxSteps := 2000000) (disch := ((try unfold LIM at *); omega)) only [↓bcase_true, ↓bcase_false, WA, simprocAttr, wrap_i64, c']
  obtain ⟨sl, so, q, bb, wS, nI, hsl, hso⟩ : ∃ sl so q bb, PureV C 37 [.agg (dV fl ol cap), .agg (oV o)] (.tup [.agg (dV sl so q), .s (.bool bb)]) ∧ NewDB 36 [.agg (dV fl ol cap), .agg (oV o)] sl so q bb ∧ sl.length ≤ 1048576 ∧ so.length ≤ 1048576 := ⟨_, _, _, _, spec37 fl ol cap o S hoo, impl36 fl ol cap o S hoo, (op_len (cap := cap) (o := o) S).1, (op_len S).2⟩
  refine DrawThen.cut (ι := Unit) (fun _ => True) (fun _ => [(2, .ptr 0 0 0), (3, .ptr 1 0 0), (6, .ptr 2 0 0), (7, .s (.bool bb))]) (fun _ => [⟨[dV fl ol cap], 3, 1, true⟩, ⟨[oV o], 3, 1, true⟩, ⟨[dV sl so q], 3, 1, true⟩]) 1000 ?_ ?_
  · skip
    refine DrawThen.of 1000 [] (.old 0 (.old 2 (.or 1 (.or 3 (.or 4 (.new 5 (.new 6 (.new 7 (.go 8 (.go 9 (.new 10 .done)))))) (.go 8 (.go 4 (.new 5 (.new 6 (.new 7 (.go 9 (.new 10 .done)))))))) (.go 8 (.go 3 (.go 4 (.new 5 (.new 6 (.new 7 (.go 9 (.new 10 .done))))))))) (.go 8 (.go 1 (.go 3 (.go 4 (.new 5 (.new 6 (.new 7 (.go 9 (.new 10 .done)))))))))))) (panFree_loopN (panFree_pure _ _ _)) (by kernel_rfl) (by kernel_rfl) (by kernel_rfl) ?_
    simp +contextual (maxSteps := 2000000) (disch := ((try unfold LIM at *); omega)) only [↓bcase_true, ↓bcase_false, WA, simprocAttr, wrap_i64, dV, oV]
    refine ⟨?_, ?_⟩
    · refine DCall.pure (walk32 fl ol cap S.f S.o) 1000 (.or 3 (.or 4 (.new 5 (.new 6 (.new 7 (.go 8 (.go 9 (.new 10 .done)))))) (.go 8 (.go 4 (.new 5 (.new 6 (.new 7 (.go 9 (.new 10 .done)))))))) (.go 8 (.go 3 (.go 4 (.new 5 (.new 6 (.new 7 (.go 9 (.new 10 .done))))))))) (by kernel_rfl) ?_
      simp +contextual (maxSteps := 2000000) (disch := ((try unfold LIM at *); omega)) only [↓bcase_true, ↓bcase_false, WA, simprocAttr, wrap_i64, dV, oV]
      refine ⟨?_, ?_⟩
      · refine DCall.pure (walk58 o) 1000 (.or 4 (.new 5 (.new 6 (.new 7 (.go 8 (.go 9 (.new 10 .done)))))) (.go 8 (.go 4 (.new 5 (.new 6 (.new 7 (.go 9 (.new 10 .done)))))))) (by kernel_rfl) ?_
        simp +contextual (maxSteps := 2000000) (disch := ((try unfold LIM at *); omega)) only [↓bcase_true, ↓bcase_false, WA, simprocAttr, wrap_i64, dV, oV]
        refine ⟨?_, ?_⟩
        · refine DCall.pure wS 1000 (.new 5 (.new 6 (.new 7 (.go 8 (.go 9 (.new 10 .done)))))) (by kernel_rfl) ?_
          simp +contextual (maxSteps := 2000000) (disch := ((try unfold LIM at *); omega)) only [↓bcase_true, ↓bcase_false, WA, simprocAttr, wrap_i64, dV, oV]
          repeat' apply And.intro
          all_goals
            exact joint_of () [0, 1, 2] trivial (by simp) rfl ⟨.inl ⟨rfl, rfl⟩, .inl ⟨rfl, rfl⟩, .inl ⟨rfl, rfl⟩, trivial⟩ ⟨rfl, rfl, rfl, rfl, trivial⟩
        · refine DCall.pure wS 1000 (.new 5 (.new 6 (.new 7 (.go 9 (.new 10 .done))))) (by kernel_rfl) ?_
          simp +contextual (maxSteps := 2000000) (disch := ((try unfold LIM at *); omega)) only [↓bcase_true, ↓bcase_false, WA, simprocAttr, wrap_i64, dV, oV]
          repeat' apply And.intro
          all_goals
            exact joint_of () [0, 1, 2] trivial (by simp) rfl ⟨.inl ⟨rfl, rfl⟩, .inl ⟨rfl, rfl⟩, .inl ⟨rfl, rfl⟩, trivial⟩ ⟨rfl, rfl, rfl, rfl, trivial⟩
      · refine DCall.pure (walk58 o) 1000 (.go 4 (.new 5 (.new 6 (.new 7 (.go 9 (.new 10 .done)))))) (by kernel_rfl) ?_
        simp +contextual (maxSteps := 2000000) (disch := ((try unfold LIM at *); omega)) only [↓bcase_true, ↓bcase_false, WA, simprocAttr, wrap_i64, dV, oV]
        refine DCall.pure wS 1000 (.new 5 (.new 6 (.new 7 (.go 9 (.new 10 .done))))) (by kernel_rfl) ?_
        simp +contextual (maxSteps := 2000000) (disch := ((try unfold LIM at *); omega)) only [↓bcase_true, ↓bcase_false, WA, simprocAttr, wrap_i64, dV, oV]
        repeat' apply And.intro
        all_goals
          exact joint_of () [0, 1, 2] trivial (by simp) rfl ⟨.inl ⟨rfl, rfl⟩, .inl ⟨rfl, rfl⟩, .inl ⟨rfl, rfl⟩, trivial⟩ ⟨rfl, rfl, rfl, rfl, trivial⟩
    · refine DCall.pure (walk32 fl ol cap S.f S.o) 1000 (.go 3 (.go 4 (.new 5 (.new 6 (.new 7 (.go 9 (.new 10 .done))))))) (by kernel_rfl) ?_
      simp +contextual (maxSteps := 2000000) (disch := ((try unfold LIM at *); omega)) only [↓bcase_true, ↓bcase_false, WA, simprocAttr, wrap_i64, dV, oV]
      refine DCall.pure (walk58 o) 1000 (.go 4 (.new 5 (.new 6 (.new 7 (.go 9 (.new 10 .done)))))) (by kernel_rfl) ?_
      simp +contextual (maxSteps := 2000000) (disch := ((try unfold LIM at *); omega)) only [↓bcase_true, ↓bcase_false, WA, simprocAttr, wrap_i64, dV, oV]
      refine DCall.pure wS 1000 (.new 5 (.new 6 (.new 7 (.go 9 (.new 10 .done))))) (by kernel_rfl) ?_
      simp +contextual (maxSteps := 2000000) (disch := ((try unfold LIM at *); omega)) only [↓bcase_true, ↓bcase_false, WA, simprocAttr, wrap_i64, dV, oV]
      repeat' apply And.intro
      all_goals
        exact joint_of () [0, 1, 2] trivial (by simp) rfl ⟨.inl ⟨rfl, rfl⟩, .inl ⟨rfl, rfl⟩, .inl ⟨rfl, rfl⟩, trivial⟩ ⟨rfl, rfl, rfl, rfl, trivial⟩
  rintro _ _
  simp +contextual (maxSteps := 2000000) (disch := ((try unfold LIM at *); omega)) only [↓bcase_true, ↓bcase_false, WA, simprocAttr, wrap_i64, dV, oV]
  refine CallThen.newD (new32 fl ol cap S.f S.o) 6 (by simp +contextual (maxSteps := 2000000) (disch := ((try unfold LIM at *); omega)) only [↓bcase_true, ↓bcase_false, WA, simprocAttr, wrap_i64, dV, frzs_f]) 1000 fun c1 c2 hc1 hc2 => ?_
  simp +contextual (maxSteps := 2000000) (disch := ((try unfold LIM at *); omega)) only [↓bcase_true, ↓bcase_false, WA, simprocAttr, wrap_i64, dO, dH]
  refine DrawThen.cut (ι := Nat × Nat) (fun p => sl.length ≤ p.1 ∧ so.length ≤ p.2) (fun _ => [(2, .ptr 0 0 0), (3, .ptr 1 0 0), (6, .ptr 2 0 0), (7, .s (.bool bb)), (8, .ptr 5 0 0), (9, .ptr 8 0 0), (10, .s (.bool bb))])
    (fun p => [⟨[dV fl ol cap], 3, 1, true⟩, ⟨[oV o], 3, 1, true⟩, ⟨[dV sl so q], 3, 1, true⟩, ⟨fl.map fV, 2, c1, true⟩, ⟨ol.map oV, 3, c2, true⟩, ⟨[dO fl ol cap 3 c1 4 c2], 3, 1, true⟩, ⟨sl.map fV, 2, p.1, true⟩, ⟨so.map oV, 3, p.2, true⟩, ⟨[dO sl so q 6 p.1 7 p.2], 3, 1, true⟩]) 1000 ?_ ?_
  · skip
    refine DrawThen.of 1000 [3, 4] (.old 0 (.old 1 (.or 2 (.or 3 (.new 4 (.new 5 (.new 6 (.go 7 (.go 8 (.new 9 .done)))))) (.go 7 (.go 3 (.new 4 (.new 5 (.new 6 (.go 8 (.new 9 .done)))))))) (.go 7 (.go 2 (.go 3 (.new 4 (.new 5 (.new 6 (.go 8 (.new 9 .done))))))))))) (panFree_loopN (panFree_pure _ _ _)) (by kernel_rfl) (by kernel_rfl) (by kernel_rfl) ?_
    simp +contextual (maxSteps := 2000000) (disch := ((try unfold LIM at *); omega)) only [↓bcase_true, ↓bcase_false, WA, simprocAttr, wrap_i64, oV, dO, dH]
    refine ⟨?_, ?_⟩
    · refine DCall.pure (walk58 o) 1000 (.or 3 (.new 4 (.new 5 (.new 6 (.go 7 (.go 8 (.new 9 .done)))))) (.go 7 (.go 3 (.new 4 (.new 5 (.new 6 (.go 8 (.new 9 .done)))))))) (by kernel_rfl) ?_
      simp +contextual (maxSteps := 2000000) (disch := ((try unfold LIM at *); omega)) only [↓bcase_true, ↓bcase_false, WA, simprocAttr, wrap_i64, oV, dO, dH]
      refine ⟨?_, ?_⟩
      · refine DCall.newDB nI 6 ?_ 1000 (.new 4 (.new 5 (.new 6 (.go 7 (.go 8 (.new 9 .done)))))) (by kernel_rfl) fun c3 c4 hc3 hc4 => ?_
        · simp +contextual (maxSteps := 2000000) (disch := ((try unfold LIM at *); omega)) only [↓bcase_true, ↓bcase_false, WA, simprocAttr, wrap_i64, dV, oV, List.length_map, own_fl, own_ol, fV_frz, oV_frz, Nat.not_lt_zero]
        simp +contextual (maxSteps := 2000000) (disch := ((try unfold LIM at *); omega)) only [↓bcase_true, ↓bcase_false, WA, simprocAttr, wrap_i64, oV, dO, dH]
        repeat' apply And.intro
        all_goals
          first
          | exact joint_of (c3, c4) [0, 1, 2, 3, 4, 5, 6, 7, 8] ⟨hc3, hc4⟩ (by simp) rfl ⟨.inl ⟨rfl, rfl⟩, .inl ⟨rfl, rfl⟩, .inl ⟨rfl, rfl⟩, .inl ⟨nrs_map fV_nr _, rfl⟩, .inl ⟨nrs_map oV_nr _, rfl⟩, .inr rfl, .inl ⟨nrs_map fV_nr _, rfl⟩, .inl ⟨nrs_map oV_nr _, rfl⟩, .inr rfl, trivial⟩ ⟨rfl, rfl, rfl, rfl, rfl, rfl, rfl, trivial⟩
          | exact joint_of (c3, c4) [0, 1, 2, 3, 4, 5, 7, 8, 6] ⟨hc3, hc4⟩ (by simp) rfl ⟨.inl ⟨rfl, rfl⟩, .inl ⟨rfl, rfl⟩, .inl ⟨rfl, rfl⟩, .inl ⟨nrs_map fV_nr _, rfl⟩, .inl ⟨nrs_map oV_nr _, rfl⟩, .inr rfl, .inl ⟨nrs_map fV_nr _, rfl⟩, .inl ⟨nrs_map oV_nr _, rfl⟩, .inr rfl, trivial⟩ ⟨rfl, rfl, rfl, rfl, rfl, rfl, rfl, trivial⟩
      · refine DCall.newDB nI 6 ?_ 1000 (.new 4 (.new 5 (.new 6 (.go 8 (.new 9 .done))))) (by kernel_rfl) fun c3 c4 hc3 hc4 => ?_
        · simp +contextual (maxSteps := 2000000) (disch := ((try unfold LIM at *); omega)) only [↓bcase_true, ↓bcase_false, WA, simprocAttr, wrap_i64, dV, oV, List.length_map, own_fl, own_ol, fV_frz, oV_frz, Nat.not_lt_zero]
        simp +contextual (maxSteps := 2000000) (disch := ((try unfold LIM at *); omega)) only [↓bcase_true, ↓bcase_false, WA, simprocAttr, wrap_i64, oV, dO, dH]
        repeat' apply And.intro
        all_goals
          first
          | exact joint_of (c3, c4) [0, 1, 2, 3, 4, 5, 6, 7, 8] ⟨hc3, hc4⟩ (by simp) rfl ⟨.inl ⟨rfl, rfl⟩, .inl ⟨rfl, rfl⟩, .inl ⟨rfl, rfl⟩, .inl ⟨nrs_map fV_nr _, rfl⟩, .inl ⟨nrs_map oV_nr _, rfl⟩, .inr rfl, .inl ⟨nrs_map fV_nr _, rfl⟩, .inl ⟨nrs_map oV_nr _, rfl⟩, .inr rfl, trivial⟩ ⟨rfl, rfl, rfl, rfl, rfl, rfl, rfl, trivial⟩
          | exact joint_of (c3, c4) [0, 1, 2, 3, 4, 5, 7, 8, 6] ⟨hc3, hc4⟩ (by simp) rfl ⟨.inl ⟨rfl, rfl⟩, .inl ⟨rfl, rfl⟩, .inl ⟨rfl, rfl⟩, .inl ⟨nrs_map fV_nr _, rfl⟩, .inl ⟨nrs_map oV_nr _, rfl⟩, .inr rfl, .inl ⟨nrs_map fV_nr _, rfl⟩, .inl ⟨nrs_map oV_nr _, rfl⟩, .inr rfl, trivial⟩ ⟨rfl, rfl, rfl, rfl, rfl, rfl, rfl, trivial⟩
    · refine DCall.pure (walk58 o) 1000 (.go 3 (.new 4 (.new 5 (.new 6 (.go 8 (.new 9 .done)))))) (by kernel_rfl) ?_
      simp +contextual (maxSteps := 2000000) (disch := ((try unfold LIM at *); omega)) only [↓bcase_true, ↓bcase_false, WA, simprocAttr, wrap_i64, oV, dO, dH]
      refine DCall.newDB nI 6 ?_ 1000 (.new 4 (.new 5 (.new 6 (.go 8 (.new 9 .done))))) (by kernel_rfl) fun c3 c4 hc3 hc4 => ?_
      · simp +contextual (maxSteps := 2000000) (disch := ((try unfold LIM at *); omega)) only [↓bcase_true, ↓bcase_false, WA, simprocAttr, wrap_i64, dV, oV, List.length_map, own_fl, own_ol, fV_frz, oV_frz, Nat.not_lt_zero]
      simp +contextual (maxSteps := 2000000) (disch := ((try unfold LIM at *); omega)) only [↓bcase_true, ↓bcase_false, WA, simprocAttr, wrap_i64, oV, dO, dH]
      repeat' apply And.intro
      all_goals
        first
        | exact joint_of (c3, c4) [0, 1, 2, 3, 4, 5, 6, 7, 8] ⟨hc3, hc4⟩ (by simp) rfl ⟨.inl ⟨rfl, rfl⟩, .inl ⟨rfl, rfl⟩, .inl ⟨rfl, rfl⟩, .inl ⟨nrs_map fV_nr _, rfl⟩, .inl ⟨nrs_map oV_nr _, rfl⟩, .inr rfl, .inl ⟨nrs_map fV_nr _, rfl⟩, .inl ⟨nrs_map oV_nr _, rfl⟩, .inr rfl, trivial⟩ ⟨rfl, rfl, rfl, rfl, rfl, rfl, rfl, trivial⟩
        | exact joint_of (c3, c4) [0, 1, 2, 3, 4, 5, 7, 8, 6] ⟨hc3, hc4⟩ (by simp) rfl ⟨.inl ⟨rfl, rfl⟩, .inl ⟨rfl, rfl⟩, .inl ⟨rfl, rfl⟩, .inl ⟨nrs_map fV_nr _, rfl⟩, .inl ⟨nrs_map oV_nr _, rfl⟩, .inr rfl, .inl ⟨nrs_map fV_nr _, rfl⟩, .inl ⟨nrs_map oV_nr _, rfl⟩, .inr rfl, trivial⟩ ⟨rfl, rfl, rfl, rfl, rfl, rfl, rfl, trivial⟩
  rintro ⟨c3, c4⟩ ⟨hc3, hc4⟩
  simp only at hc3 hc4
  simp +contextual (maxSteps := 2000000) (disch := ((try unfold LIM at *); omega)) only [↓bcase_true, ↓bcase_false, WA, simprocAttr, wrap_i64, dV, oV, dO]
  refine CallThen.borrow (walk34 sl so q sl so q) (flat_s _) 6 ?_ 1000 ?_
  · simp +contextual (maxSteps := 2000000) (disch := ((try unfold LIM at *); omega)) only [↓bcase_true, ↓bcase_false, WA, simprocAttr, wrap_i64, dV, List.length_map, own_fl, own_ol, fV_frz, oV_frz, Nat.not_lt_zero]
  simp +contextual (maxSteps := 2000000) (disch := ((try unfold LIM at *); omega)) only [↓bcase_true, ↓bcase_false, WA, simprocAttr, wrap_i64, and_self, bne_self_eq_false]
  refine DrawThen.of 1000 [3, 4] (.old 0 (.old 1 (.go 2 (.go 3 (.new 4 .done))))) (panFree_pure _ _ _) (by kernel_rfl) (by kernel_rfl) (by kernel_rfl) ?_
  simp +contextual (maxSteps := 2000000) (disch := ((try unfold LIM at *); omega)) only [↓bcase_true, ↓bcase_false, WA, simprocAttr, wrap_i64]
  refine DCall.pure (walk32 fl ol cap S.f S.o) 1000 (.go 3 (.new 4 .done)) (by kernel_rfl) ?_
  simp +contextual (maxSteps := 2000000) (disch := ((try unfold LIM at *); omega)) only [↓bcase_true, ↓bcase_false, WA, simprocAttr, wrap_i64, dV]
  refine DCall.borrow (walk34 fl ol cap fl ol cap) (flat_s _) 6 ?_ 1000 (.new 4 .done) (by kernel_rfl) ?_
  · simp +contextual (maxSteps := 2000000) (disch := ((try unfold LIM at *); omega)) only [↓bcase_true, ↓bcase_false, WA, simprocAttr, wrap_i64, dV, List.length_map, own_fl, own_ol, fV_frz, oV_frz, Nat.not_lt_zero]
  simp +contextual (maxSteps := 2000000) (disch := ((try unfold LIM at *); omega)) only [↓bcase_true, ↓bcase_false, WA, simprocAttr, wrap_i64, and_self]
  refine CallThen.edit (walk51 fl ol cap 1 c1 c2 S.f S.o hc1 hc2 (by omega) (by omega)) [3, 4] (by simp) ⟨.inl ⟨nrs_map fV_nr _, rfl⟩, .inl ⟨nrs_map oV_nr _, rfl⟩, trivial⟩ rfl 1000 ?_
  have p1 : ¬ (1 + 2 * (fl.length : Int) + 3 * (ol.length : Int) < 0) := by omega
  simp +contextual (maxSteps := 2000000) (disch := ((try unfold LIM at *); omega)) only [↓bcase_true, ↓bcase_false, WA, simprocAttr, wrap_i64, WB8, dH, p1]
  refine CallThen.borrow (walk34 sl so q sl so q) (flat_s _) 6 ?_ 1000 ?_
  · simp +contextual (maxSteps := 2000000) (disch := ((try unfold LIM at *); omega)) only [↓bcase_true, ↓bcase_false, WA, simprocAttr, wrap_i64, dV, List.length_map, own_fl, own_ol, fV_frz, oV_frz, Nat.not_lt_zero]
  simp +contextual (maxSteps := 2000000) (disch := ((try unfold LIM at *); omega)) only [↓bcase_true, ↓bcase_false, WA, simprocAttr, wrap_i64, WB8, and_self, bne_self_eq_false]
  refine CallThen.edit (walk51 sl so q 1 c3 c4 hsl hso hc3 hc4 (by omega) (by omega)) [6, 7] (by simp) ⟨.inl ⟨nrs_map fV_nr _, rfl⟩, .inl ⟨nrs_map oV_nr _, rfl⟩, trivial⟩ rfl 1000 ?_
  have p2 : ¬ (1 + 2 * (sl.length : Int) + 3 * (so.length : Int) < 0) := by omega
  simp +contextual (maxSteps := 2000000) (disch := ((try unfold LIM at *); omega)) only [↓bcase_true, ↓bcase_false, WA, simprocAttr, wrap_i64, WB8, dH]
  refine CallThen.borrow (walk55 q 1 sl.length so.length hsl hso (by omega) (by omega)) (flat_s _) 6 ?_ 1000 ?_
  · simp +contextual (maxSteps := 2000000) (disch := ((try unfold LIM at *); omega)) only [↓bcase_true, ↓bcase_false, WA, simprocAttr, wrap_i64, dV, List.length_map, fV_frz, oV_frz, Nat.not_lt_zero, markF_len, markF_take, markO_len, markO_take]
  simp +contextual (maxSteps := 2000000) (disch := ((try unfold LIM at *); omega)) only [↓bcase_true, ↓bcase_false, WA, simprocAttr, wrap_i64, WB8, p2, bne_self_eq_false]
  refine DrawThen.cut (ι := Nat × Nat) (fun p => sl.length ≤ p.1 ∧ so.length ≤ p.2) (fun p => [(6, .ptr 1 0 0), (7, .s (.bool bb)), (9, .ptr 4 0 0), (12, .s (.int .i64 (1 + 2 * (sl.length : Int) + 3 * (so.length : Int)))), (14, .ptr 7 0 0), (15, .s (.bool bb))])
    (fun p => [⟨[dV fl ol cap], 3, 1, true⟩, ⟨[dV sl so q], 3, 1, true⟩, ⟨(markF 1 sl.length).map fV, 2, c3, true⟩, ⟨(markO (1 + 2 * (sl.length : Int)) so.length).map oV, 3, c4, true⟩, ⟨[dO sl so q 2 c3 3 c4], 3, 1, true⟩, ⟨sl.map fV, 2, p.1, true⟩, ⟨so.map oV, 3, p.2, true⟩, ⟨[dO sl so q 5 p.1 6 p.2], 3, 1, true⟩]) 1000 ?_ ?_
  · skip
    refine DrawThen.of 1000 [] (.old 0 (.old 2 (.or 1 (.or 3 (.or 4 (.new 5 (.new 6 (.new 7 (.go 8 (.go 9 (.new 10 .done)))))) (.go 8 (.go 4 (.new 5 (.new 6 (.new 7 (.go 9 (.new 10 .done)))))))) (.go 8 (.go 3 (.go 4 (.new 5 (.new 6 (.new 7 (.go 9 (.new 10 .done))))))))) (.go 8 (.go 1 (.go 3 (.go 4 (.new 5 (.new 6 (.new 7 (.go 9 (.new 10 .done)))))))))))) (panFree_loopN (panFree_pure _ _ _)) (by kernel_rfl) (by kernel_rfl) (by kernel_rfl) ?_
    simp +contextual (maxSteps := 2000000) (disch := ((try unfold LIM at *); omega)) only [↓bcase_true, ↓bcase_false, WA, simprocAttr, wrap_i64, dV, oV, dO, dH]
    refine ⟨?_, ?_⟩
    · refine DCall.pure (walk32 fl ol cap S.f S.o) 1000 (.or 3 (.or 4 (.new 5 (.new 6 (.new 7 (.go 8 (.go 9 (.new 10 .done)))))) (.go 8 (.go 4 (.new 5 (.new 6 (.new 7 (.go 9 (.new 10 .done)))))))) (.go 8 (.go 3 (.go 4 (.new 5 (.new 6 (.new 7 (.go 9 (.new 10 .done))))))))) (by kernel_rfl) ?_
      simp +contextual (maxSteps := 2000000) (disch := ((try unfold LIM at *); omega)) only [↓bcase_true, ↓bcase_false, WA, simprocAttr, wrap_i64, dV, oV, dO, dH]
      refine ⟨?_, ?_⟩
      · refine DCall.pure (walk58 o) 1000 (.or 4 (.new 5 (.new 6 (.new 7 (.go 8 (.go 9 (.new 10 .done)))))) (.go 8 (.go 4 (.new 5 (.new 6 (.new 7 (.go 9 (.new 10 .done)))))))) (by kernel_rfl) ?_
        simp +contextual (maxSteps := 2000000) (disch := ((try unfold LIM at *); omega)) only [↓bcase_true, ↓bcase_false, WA, simprocAttr, wrap_i64, dV, oV, dO, dH]
        refine ⟨?_, ?_⟩
        · refine DCall.newDB nI 6 ?_ 1000 (.new 5 (.new 6 (.new 7 (.go 8 (.go 9 (.new 10 .done)))))) (by kernel_rfl) fun c5 c6 hc5 hc6 => ?_
          · simp +contextual (maxSteps := 2000000) (disch := ((try unfold LIM at *); omega)) only [↓bcase_true, ↓bcase_false, WA, simprocAttr, wrap_i64, dV, oV, List.length_map, own_fl, own_ol, fV_frz, oV_frz, Nat.not_lt_zero]
          simp +contextual (maxSteps := 2000000) (disch := ((try unfold LIM at *); omega)) only [↓bcase_true, ↓bcase_false, WA, simprocAttr, wrap_i64, dV, oV, dO, dH]
          repeat' apply And.intro
          all_goals
            first
            | exact joint_of (c5, c6) [0, 2, 6, 7, 8, 9, 10, 11] ⟨hc5, hc6⟩ (by simp) rfl ⟨.inl ⟨rfl, rfl⟩, .inl ⟨rfl, rfl⟩, .inl ⟨nrs_map fV_nr _, rfl⟩, .inl ⟨nrs_map oV_nr _, rfl⟩, .inr rfl, .inl ⟨nrs_map fV_nr _, rfl⟩, .inl ⟨nrs_map oV_nr _, rfl⟩, .inr rfl, trivial⟩ ⟨rfl, rfl, rfl, rfl, rfl, rfl, trivial⟩
            | exact joint_of (c5, c6) [0, 2, 6, 7, 8, 10, 11, 9] ⟨hc5, hc6⟩ (by simp) rfl ⟨.inl ⟨rfl, rfl⟩, .inl ⟨rfl, rfl⟩, .inl ⟨nrs_map fV_nr _, rfl⟩, .inl ⟨nrs_map oV_nr _, rfl⟩, .inr rfl, .inl ⟨nrs_map fV_nr _, rfl⟩, .inl ⟨nrs_map oV_nr _, rfl⟩, .inr rfl, trivial⟩ ⟨rfl, rfl, rfl, rfl, rfl, rfl, trivial⟩
        · refine DCall.newDB nI 6 ?_ 1000 (.new 5 (.new 6 (.new 7 (.go 9 (.new 10 .done))))) (by kernel_rfl) fun c5 c6 hc5 hc6 => ?_
          · simp +contextual (maxSteps := 2000000) (disch := ((try unfold LIM at *); omega)) only [↓bcase_true, ↓bcase_false, WA, simprocAttr, wrap_i64, dV, oV, List.length_map, own_fl, own_ol, fV_frz, oV_frz, Nat.not_lt_zero]
          simp +contextual (maxSteps := 2000000) (disch := ((try unfold LIM at *); omega)) only [↓bcase_true, ↓bcase_false, WA, simprocAttr, wrap_i64, dV, oV, dO, dH]
          repeat' apply And.intro
          all_goals
            first
            | exact joint_of (c5, c6) [0, 2, 6, 7, 8, 9, 10, 11] ⟨hc5, hc6⟩ (by simp) rfl ⟨.inl ⟨rfl, rfl⟩, .inl ⟨rfl, rfl⟩, .inl ⟨nrs_map fV_nr _, rfl⟩, .inl ⟨nrs_map oV_nr _, rfl⟩, .inr rfl, .inl ⟨nrs_map fV_nr _, rfl⟩, .inl ⟨nrs_map oV_nr _, rfl⟩, .inr rfl, trivial⟩ ⟨rfl, rfl, rfl, rfl, rfl, rfl, trivial⟩
            | exact joint_of (c5, c6) [0, 2, 6, 7, 8, 10, 11, 9] ⟨hc5, hc6⟩ (by simp) rfl ⟨.inl ⟨rfl, rfl⟩, .inl ⟨rfl, rfl⟩, .inl ⟨nrs_map fV_nr _, rfl⟩, .inl ⟨nrs_map oV_nr _, rfl⟩, .inr rfl, .inl ⟨nrs_map fV_nr _, rfl⟩, .inl ⟨nrs_map oV_nr _, rfl⟩, .inr rfl, trivial⟩ ⟨rfl, rfl, rfl, rfl, rfl, rfl, trivial⟩
      · refine DCall.pure (walk58 o) 1000 (.go 4 (.new 5 (.new 6 (.new 7 (.go 9 (.new 10 .done)))))) (by kernel_rfl) ?_
        simp +contextual (maxSteps := 2000000) (disch := ((try unfold LIM at *); omega)) only [↓bcase_true, ↓bcase_false, WA, simprocAttr, wrap_i64, dV, oV, dO, dH]
        refine DCall.newDB nI 6 ?_ 1000 (.new 5 (.new 6 (.new 7 (.go 9 (.new 10 .done))))) (by kernel_rfl) fun c5 c6 hc5 hc6 => ?_
        · simp +contextual (maxSteps := 2000000) (disch := ((try unfold LIM at *); omega)) only [↓bcase_true, ↓bcase_false, WA, simprocAttr, wrap_i64, dV, oV, List.length_map, own_fl, own_ol, fV_frz, oV_frz, Nat.not_lt_zero]
        simp +contextual (maxSteps := 2000000) (disch := ((try unfold LIM at *); omega)) only [↓bcase_true, ↓bcase_false, WA, simprocAttr, wrap_i64, dV, oV, dO, dH]
        repeat' apply And.intro
        all_goals
          first
          | exact joint_of (c5, c6) [0, 2, 6, 7, 8, 9, 10, 11] ⟨hc5, hc6⟩ (by simp) rfl ⟨.inl ⟨rfl, rfl⟩, .inl ⟨rfl, rfl⟩, .inl ⟨nrs_map fV_nr _, rfl⟩, .inl ⟨nrs_map oV_nr _, rfl⟩, .inr rfl, .inl ⟨nrs_map fV_nr _, rfl⟩, .inl ⟨nrs_map oV_nr _, rfl⟩, .inr rfl, trivial⟩ ⟨rfl, rfl, rfl, rfl, rfl, rfl, trivial⟩
          | exact joint_of (c5, c6) [0, 2, 6, 7, 8, 10, 11, 9] ⟨hc5, hc6⟩ (by simp) rfl ⟨.inl ⟨rfl, rfl⟩, .inl ⟨rfl, rfl⟩, .inl ⟨nrs_map fV_nr _, rfl⟩, .inl ⟨nrs_map oV_nr _, rfl⟩, .inr rfl, .inl ⟨nrs_map fV_nr _, rfl⟩, .inl ⟨nrs_map oV_nr _, rfl⟩, .inr rfl, trivial⟩ ⟨rfl, rfl, rfl, rfl, rfl, rfl, trivial⟩
    · refine DCall.pure (walk32 fl ol cap S.f S.o) 1000 (.go 3 (.go 4 (.new 5 (.new 6 (.new 7 (.go 9 (.new 10 .done))))))) (by kernel_rfl) ?_
      simp +contextual (maxSteps := 2000000) (disch := ((try unfold LIM at *); omega)) only [↓bcase_true, ↓bcase_false, WA, simprocAttr, wrap_i64, dV, oV, dO, dH]
      refine DCall.pure (walk58 o) 1000 (.go 4 (.new 5 (.new 6 (.new 7 (.go 9 (.new 10 .done)))))) (by kernel_rfl) ?_
      simp +contextual (maxSteps := 2000000) (disch := ((try unfold LIM at *); omega)) only [↓bcase_true, ↓bcase_false, WA, simprocAttr, wrap_i64, dV, oV, dO, dH]
      refine DCall.newDB nI 6 ?_ 1000 (.new 5 (.new 6 (.new 7 (.go 9 (.new 10 .done))))) (by kernel_rfl) fun c5 c6 hc5 hc6 => ?_
      · simp +contextual (maxSteps := 2000000) (disch := ((try unfold LIM at *); omega)) only [↓bcase_true, ↓bcase_false, WA, simprocAttr, wrap_i64, dV, oV, List.length_map, own_fl, own_ol, fV_frz, oV_frz, Nat.not_lt_zero]
      simp +contextual (maxSteps := 2000000) (disch := ((try unfold LIM at *); omega)) only [↓bcase_true, ↓bcase_false, WA, simprocAttr, wrap_i64, dV, oV, dO, dH]
      repeat' apply And.intro
      all_goals
        first
        | exact joint_of (c5, c6) [0, 2, 6, 7, 8, 9, 10, 11] ⟨hc5, hc6⟩ (by simp) rfl ⟨.inl ⟨rfl, rfl⟩, .inl ⟨rfl, rfl⟩, .inl ⟨nrs_map fV_nr _, rfl⟩, .inl ⟨nrs_map oV_nr _, rfl⟩, .inr rfl, .inl ⟨nrs_map fV_nr _, rfl⟩, .inl ⟨nrs_map oV_nr _, rfl⟩, .inr rfl, trivial⟩ ⟨rfl, rfl, rfl, rfl, rfl, rfl, trivial⟩
        | exact joint_of (c5, c6) [0, 2, 6, 7, 8, 10, 11, 9] ⟨hc5, hc6⟩ (by simp) rfl ⟨.inl ⟨rfl, rfl⟩, .inl ⟨rfl, rfl⟩, .inl ⟨nrs_map fV_nr _, rfl⟩, .inl ⟨nrs_map oV_nr _, rfl⟩, .inr rfl, .inl ⟨nrs_map fV_nr _, rfl⟩, .inl ⟨nrs_map oV_nr _, rfl⟩, .inr rfl, trivial⟩ ⟨rfl, rfl, rfl, rfl, rfl, rfl, trivial⟩
  rintro ⟨c5, c6⟩ ⟨hc5, hc6⟩
  simp only at hc5 hc6
  simp +contextual (maxSteps := 2000000) (disch := ((try unfold LIM at *); omega)) only [↓bcase_true, ↓bcase_false, WA, simprocAttr, wrap_i64, dV, oV, dO]
  refine CallThen.borrow (walk34 sl so q sl so q) (flat_s _) 6 ?_ 1000 ?_
  · simp +contextual (maxSteps := 2000000) (disch := ((try unfold LIM at *); omega)) only [↓bcase_true, ↓bcase_false, WA, simprocAttr, wrap_i64, dV, List.length_map, own_fl, own_ol, fV_frz, oV_frz, Nat.not_lt_zero]
  simp +contextual (maxSteps := 2000000) (disch := ((try unfold LIM at *); omega)) only [↓bcase_true, ↓bcase_false, WA, simprocAttr, wrap_i64, and_self, bne_self_eq_false]
  refine CallThen.borrow (walk55 q 1 sl.length so.length hsl hso (by omega) (by omega)) (flat_s _) 6 ?_ 1000 ?_
  · simp +contextual (maxSteps := 2000000) (disch := ((try unfold LIM at *); omega)) only [↓bcase_true, ↓bcase_false, WA, simprocAttr, wrap_i64, dV, List.length_map, fV_frz, oV_frz, Nat.not_lt_zero, markF_len, markF_take, markO_len, markO_take]
  simp +contextual (maxSteps := 2000000) (disch := ((try unfold LIM at *); omega)) only [↓bcase_true, ↓bcase_false, WA, simprocAttr, wrap_i64, WB8, p2, bne_self_eq_false]
end Go.Proofs.Ytpcgnmoogjahbaa
/- part W39 -/
set_option linter.unusedVariables false
set_option linter.unusedSimpArgs false
namespace Go.W
open Go Go.RowKit

/-! ### Bits of small numbers -/
theorem ofInt_small {a : Int} (ha : 0 ≤ a) (hb : a < 4611686018427387904) : (BitVec.ofInt IntKind.i64.bits a).toNat = a.toNat := by
  have e : IntKind.i64.bits = 64 := rfl
  rw [e, BitVec.toNat_ofInt]
  rw [Int.emod_eq_of_lt ha (by omega)]
theorem bitXor_small {a b : Int} (ha : 0 ≤ a) (hb : 0 ≤ b) (ha2 : a < 4611686018427387904) (hb2 : b < 4611686018427387904) : bitXor .i64 a b = ((a.toNat ^^^ b.toNat : Nat) : Int) := by
  unfold bitXor
  rw [BitVec.toNat_xor, ofInt_small ha ha2, ofInt_small hb hb2]
  have h : a.toNat ^^^ b.toNat < 2 ^ 62 := Nat.xor_lt_two_pow (by omega) (by omega)
  exact wrap_i64 (by omega) (by omega)
theorem bitXor_nn {a b : Int} (ha : 0 ≤ a) (hb : 0 ≤ b) (ha2 : a < 4611686018427387904) (hb2 : b < 4611686018427387904) : 0 ≤ bitXor .i64 a b := by
  rw [bitXor_small ha hb ha2 hb2]; omega
end Go.W
/- part D35 -/
set_option linter.unusedVariables false
set_option linter.unusedSimpArgs false
set_option maxRecDepth 100000
namespace Go.Proofs.Ytpcgnmoogjahbaa
open Go Go.W Go.RowKit
def bV (x : UInt8) : List V := [.s (.int .u8 (x.toNat : Int))]
theorem bV_nr (f : UInt8) : (bV f).all nr = true := rfl
theorem bV_ok (f : UInt8) : (bV f).all cellOk = true := rfl
def rdB (b : List UInt8) (p : Int) : Blk := ⟨[[.f 1 (b.map bV), .s (.int .i64 p)]], 2, 1, true⟩
def byteAt (b : List UInt8) (i : Int) : Int := (b[i.toNat]?.map fun x => (x.toNat : Int)).getD 0
theorem walk113 (b : List UInt8) (p n : Int) (hb : b.length ≤ 2000) (h0 : 0 ≤ p) (h1 : p ≤ 1000000) (hn0 : 1 ≤ n) (hn : n ≤ 1000000) :
    CallsV C 113 [.ptr 0 0 0, .s (.int .i64 n)] [rdB b p] fun res h' => ∃ x : Int, (0 ≤ x ∧ x < n) ∧ res = .ret (.s (.int .i64 x)) ∧ h' = [rdB b (p + 1)] := by
  refine calls_of_run Try.func113 rfl (by kernel_rfl) (by kernel_rfl) (by simp) 1000 ?_
  have n1 : ¬ n < 1 := by omega
  have q1 : p + 1 - 1 = p := by omega
  have fin : ∀ (x : Int) (h : Go.W.H), 0 ≤ x → x < n → h[0]? = some (rdB b (p + 1)) → Up 1 (fun res h' => ∃ x : Int, (0 ≤ x ∧ x < n) ∧ res = .ret (.s (.int .i64 x)) ∧ h' = [rdB b (p + 1)]) (.ret (.s (.int .i64 x))) h := by
    intro x h h0 h1 e
    exact Up.keep [rdB b (p + 1)] (fun _ => rfl) rfl (by show gcL _ _ [0] _; exact ⟨.inl ⟨rfl, e⟩, trivial⟩) ⟨x, ⟨h0, h1⟩, rfl, rfl⟩
  by_cases c : (b.length : Int) = 0
  · simp +contextual (maxSteps := 2000000) (disch := ((try unfold LIM at *); omega)) only [↓bcase_true, ↓bcase_false, WA, simprocAttr, wrap_i64, rdB, n1, List.length_map, c]
    intro _
    exact fin 0 _ (by omega) (by omega) rfl
  have wx : ∀ x : UInt8, IntKind.i64.wrap (x.toNat : Int) = (x.toNat : Int) := fun x => wrap_i64 (by omega) (by have := x.toNat_lt; omega)
  have bx : ∀ x : UInt8, (0 : Int) ≤ (x.toNat : Int) ∧ (x.toNat : Int) < 256 := fun x => by have := x.toNat_lt; omega
  by_cases d : p < b.length
  · obtain ⟨x, hx⟩ : ∃ x, b[p.toNat]? = some x := ⟨b[p.toNat]'(by omega), List.getElem?_eq_getElem (by omega)⟩
    simp +contextual (maxSteps := 2000000) (disch := ((try unfold LIM at *); omega)) only [↓bcase_true, ↓bcase_false, WA, simprocAttr, wrap_i64, rdB, n1, List.length_map, c, q1, d, h0, hx, bV, wx]
    intro _
    refine ⟨by omega, fin _ _ (Int.tmod_nonneg _ (by omega)) (Int.tmod_lt_of_pos _ (by omega)) rfl⟩
  · have hl : 0 < b.length := by omega
    obtain ⟨k, rfl⟩ : ∃ k : Nat, p = (k : Int) := ⟨p.toNat, by omega⟩
    have e1 : (k : Int).tmod b.length = ((k % b.length : Nat) : Int) := by rw [Int.tmod_eq_emod_of_nonneg (by omega)]; omega
    have e2 : ((k : Int) * 7 + 3).tmod b.length = (((k * 7 + 3) % b.length : Nat) : Int) := by
      rw [Int.tmod_eq_emod_of_nonneg (by omega), show (k : Int) * 7 + 3 = ((k * 7 + 3 : Nat) : Int) by omega]; rfl
    have e3 : (k : Int).tdiv b.length = ((k / b.length : Nat) : Int) := by rw [Int.tdiv_eq_ediv_of_nonneg (by omega)]; omega
    have l1 : k % b.length < b.length := Nat.mod_lt _ hl
    have l2 : (k * 7 + 3) % b.length < b.length := Nat.mod_lt _ hl
    have l3 : k / b.length ≤ k := Nat.div_le_self _ _
    obtain ⟨x, hx⟩ : ∃ x, b[k % b.length]? = some x := ⟨_, List.getElem?_eq_getElem l1⟩
    obtain ⟨y, hy⟩ : ∃ y, b[(k * 7 + 3) % b.length]? = some y := ⟨_, List.getElem?_eq_getElem l2⟩
    have px : (0 : Int) ≤ ((k % b.length : Nat) : Int) ∧ (0 : Int) ≤ (((k * 7 + 3) % b.length : Nat) : Int) := by omega
    have lx : ((k % b.length : Nat) : Int) < b.length ∧ (((k * 7 + 3) % b.length : Nat) : Int) < b.length := by omega
    generalize k / b.length = g at *
    have bx1 := bx x
    have by1 := bx y
    simp +contextual (maxSteps := 2000000) (disch := ((try unfold LIM at *); omega)) only [↓bcase_true, ↓bcase_false, WA, simprocAttr, wrap_i64, rdB, n1, List.length_map, c, q1, d]
    intros
    refine DrawThen.of 1000 [] (.old 0 (.old 1 (.old 2 (.old 3 (.old 4 (.old 5 (.old 6 (.old 7 (.old 8 (.old 9 (.old 10 (.old 11 (.old 12 (.old 15 (.old 16 (.old 17 (.old 18 (.old 19 (.old 20 (.old 21 (.old 22 (.old 23 (.old 24 (.old 25 (.old 26 (.old 27 (.old 28 (.old 29 (.old 33 (.old 34 (.old 36 (.old 37 (.old 38 (.old 39 (.old 40 (.old 41 (.old 42 (.old 43 (.or 13 (.new 14 (.go 30 (.new 31 (.new 32 (.new 35 (.new 44 (.new 45 .done))))))) (.go 30 (.new 31 (.go 13 (.new 14 (.new 32 (.new 35 (.new 44 (.new 45 .done))))))))))))))))))))))))))))))))))))))))))))))) (panFree_body _ _) (by kernel_rfl) (by kernel_rfl) (by kernel_rfl) ?_
    simp +contextual (maxSteps := 2000000) (disch := ((try unfold LIM at *); omega)) only [↓bcase_true, ↓bcase_false, WA, simprocAttr, wrap_i64, rdB, n1, List.length_map, c, q1, d, e1, e2, e3, hx, hy, px, lx, Int.toNat_natCast, bV, wx, ne_eq, not_false_eq_true]
    intro _
    have hX0 : 0 ≤ (x.toNat : Int) * 131 + (y.toNat : Int) * 1117 + (k : Int) * 29 + (g : Int) * 53 := by omega
    have hX1 : (x.toNat : Int) * 131 + (y.toNat : Int) * 1117 + (k : Int) * 29 + (g : Int) * 53 < 4611686018427387904 := by omega
    generalize (x.toNat : Int) * 131 + (y.toNat : Int) * 1117 + (k : Int) * 29 + (g : Int) * 53 = X at *
    have e4 : X.tdiv 64 = X / 64 := Int.tdiv_eq_ediv_of_nonneg hX0
    have e5 : IntKind.i64.wrap (X / 64) = X / 64 := wrap_i64 (by omega) (by omega)
    rw [e4, e5]
    have hz := bitXor_nn hX0 (show 0 ≤ X / 64 by omega) hX1 (show X / 64 < 4611686018427387904 by omega)
    exact ⟨by omega, fin _ _ (Int.tmod_nonneg _ hz) (Int.tmod_lt_of_pos _ (by omega)) rfl⟩
theorem pick_at {b : List UInt8} {p n : Int} (hb : b.length ≤ 2000) (h0 : 0 ≤ p) (h1 : p ≤ 1000000) (hn0 : 1 ≤ n) (hn : n ≤ 1000000) {i : Nat} (H : Go.W.H) (hi : H[i]? = some (rdB b p)) :
    CallsV C 113 [.ptr i 0 0, .s (.int .i64 n)] H fun res h' => ∃ x : Int, (0 ≤ x ∧ x < n) ∧ res = .ret (.s (.int .i64 x)) ∧ h' = H.set i (rdB b (p + 1)) := by
  have := CallsV.frame (walk113 b p n hb h0 h1 hn0 hn) [i] H rfl (by simp) (fun j B e => by
    match j, e with
    | 0, e => simp at e; subst e; exact ⟨i, rfl, hi⟩
    | j + 1, e => simp at e)
  refine this.mono fun res h' ⟨r, h1, ⟨x, q0, q1, q2⟩, q3, q4⟩ => ⟨x, q0, ?_, ?_⟩
  · rw [q3, q1]; rfl
  · rw [q4, q2]
    show setAll H [i] [rnB _ (rdB b (p + 1))] = _
    rw [nrs_rn _ (B := rdB b (p + 1)) rfl, setAll_cons, setAll_nil, List.append_nil]
theorem CallThen.pick {N n0 : Nat} {Q : QT} {k : List It} {τ : Tau} {h : Go.W.H} {d : Option Nat} {b : List UInt8} {p n : Int} {i : Nat} (hb : b.length ≤ 2000) (h0 : 0 ≤ p) (h1 : p ≤ 1000000) (hn0 : 1 ≤ n) (hn : n ≤ 1000000) (hi : h[i]? = some (rdB b p)) (m : Nat)
    (hr : ∀ x : Int, 0 ≤ x → x < n → Run C N n0 m Q k (upo d (.s (.int .i64 x)) τ) (h.set i (rdB b (p + 1)))) : CallThen C N n0 Q 113 [.ptr i 0 0, .s (.int .i64 n)] d k τ h :=
  CallThen.of m (pick_at hb h0 h1 hn0 hn h hi) fun res h' ⟨x, e1, e2, e3⟩ => by subst e2; subst e3; exact hr x e1.1 e1.2
def tB (l : List ByteArray) : List (List V) := l.map fun s => [.s (.string s)]
def iB (l : List Int) : List (List V) := l.map fun s => [.s (.int .i64 s)]
theorem tB_nr (l : List ByteArray) : nrs (tB l) = true := nrs_map (fun _ => rfl) l
theorem iB_nr (l : List Int) : nrs (iB l) = true := nrs_map (fun _ => rfl) l
theorem walk114 (b : List UInt8) (p : Int) (l : List ByteArray) (hb : b.length ≤ 2000) (h0 : 0 ≤ p) (h1 : p ≤ 1000000) (hn0 : 1 ≤ l.length) (hn : l.length ≤ 1000000) :
    CallsV C 114 [.ptr 0 0 0, .sl 1 0 l.length l.length] [rdB b p, ⟨tB l, 1, l.length, true⟩] fun res h' => ∃ s ∈ l, res = .ret (.s (.string s)) ∧ h' = [rdB b (p + 1), ⟨tB l, 1, l.length, true⟩] := by
  refine calls_of_run Try.func114 rfl (by kernel_rfl) (by kernel_rfl) (by simp) 1000 ?_
  simp +contextual (maxSteps := 2000000) (disch := ((try unfold LIM at *); omega)) only [↓bcase_true, ↓bcase_false, WA, simprocAttr, wrap_i64]
  refine CallThen.pick hb h0 h1 (by omega) (by omega) rfl 1000 fun x hx0 hx1 => ?_
  obtain ⟨s, hs⟩ : ∃ s, l[x.toNat]? = some s := ⟨_, List.getElem?_eq_getElem (show x.toNat < l.length by omega)⟩
  have ht : (tB l)[x.toNat]? = some [.s (.string s)] := by simp [tB, hs]
  have hx2 : x < (l.length : Int) := hx1
  simp +contextual (maxSteps := 2000000) (disch := ((try unfold LIM at *); omega)) only [↓bcase_true, ↓bcase_false, WA, simprocAttr, wrap_i64, hx0, hx2, ht]
  exact Up.keep [rdB b (p + 1), ⟨tB l, 1, l.length, true⟩] (fun _ => rfl) rfl (by show gcL _ _ [0, 1] _; exact ⟨.inl ⟨rfl, rfl⟩, .inl ⟨tB_nr l, rfl⟩, trivial⟩) ⟨s, List.mem_of_getElem? hs, rfl, rfl⟩
theorem walk115 (b : List UInt8) (p : Int) (l : List Int) (hb : b.length ≤ 2000) (h0 : 0 ≤ p) (h1 : p ≤ 1000000) (hn0 : 1 ≤ l.length) (hn : l.length ≤ 1000000) :
    CallsV C 115 [.ptr 0 0 0, .sl 1 0 l.length l.length] [rdB b p, ⟨iB l, 1, l.length, true⟩] fun res h' => ∃ s ∈ l, res = .ret (.s (.int .i64 s)) ∧ h' = [rdB b (p + 1), ⟨iB l, 1, l.length, true⟩] := by
  refine calls_of_run Try.func115 rfl (by kernel_rfl) (by kernel_rfl) (by simp) 1000 ?_
  simp +contextual (maxSteps := 2000000) (disch := ((try unfold LIM at *); omega)) only [↓bcase_true, ↓bcase_false, WA, simprocAttr, wrap_i64]
  refine CallThen.pick hb h0 h1 (by omega) (by omega) rfl 1000 fun x hx0 hx1 => ?_
  obtain ⟨s, hs⟩ : ∃ s, l[x.toNat]? = some s := ⟨_, List.getElem?_eq_getElem (show x.toNat < l.length by omega)⟩
  have ht : (iB l)[x.toNat]? = some [.s (.int .i64 s)] := by simp [iB, hs]
  have hx2 : x < (l.length : Int) := hx1
  simp +contextual (maxSteps := 2000000) (disch := ((try unfold LIM at *); omega)) only [↓bcase_true, ↓bcase_false, WA, simprocAttr, wrap_i64, hx0, hx2, ht]
  exact Up.keep [rdB b (p + 1), ⟨iB l, 1, l.length, true⟩] (fun _ => rfl) rfl (by show gcL _ _ [0, 1] _; exact ⟨.inl ⟨rfl, rfl⟩, .inl ⟨iB_nr l, rfl⟩, trivial⟩) ⟨s, List.mem_of_getElem? hs, rfl, rfl⟩
theorem walk80 (b : List UInt8) (hb : b.length ≤ 1048576) : CallsV C 80 [.f 1 (b.map bV)] [] fun res h' => ∃ b' : List UInt8, b'.length ≤ 2000 ∧ res = .ret (.ptr 0 0 0) ∧ h' = [rdB b' 0] := by
  refine calls_of_run Try.func80 rfl (by kernel_rfl) (by kernel_rfl) (by simp) 1000 ?_
  by_cases c : (2000 : Int) < b.length
  · have c2 : (2000 : Int) ≤ b.length := by omega
    simp +contextual (maxSteps := 2000000) (disch := ((try unfold LIM at *); omega)) only [↓bcase_true, ↓bcase_false, WA, simprocAttr, wrap_i64, rdB, List.length_map, c, c2]
    intro _
    exact Up.gc (.ptr 0 0 0) [0] [rdB (b.take 2000) 0] (by simp) ⟨.inl ⟨rfl, by simp only [rdB, List.map_take]; rfl⟩, trivial⟩ rfl ⟨_, by rw [List.length_take]; omega, rfl, rfl⟩
  · simp +contextual (maxSteps := 2000000) (disch := ((try unfold LIM at *); omega)) only [↓bcase_true, ↓bcase_false, WA, simprocAttr, wrap_i64, rdB, List.length_map, c]
    intro _
    exact Up.gc (.ptr 0 0 0) [0] [rdB b 0] (by simp) ⟨.inl ⟨rfl, rfl⟩, trivial⟩ rfl ⟨_, by omega, rfl, rfl⟩
end Go.Proofs.Ytpcgnmoogjahbaa
/- part D36 -/
set_option linter.unusedVariables false
set_option linter.unusedSimpArgs false
set_option maxRecDepth 100000
namespace Go.Proofs.Ytpcgnmoogjahbaa
open Go Go.W Go.RowKit
theorem rd_two {b : List UInt8} {p : Int} {B : Blk} (hB : nrs B.els = true) {i j : Nat} (H : Go.W.H) (hi : H[i]? = some (rdB b p)) (hj : H[j]? = some B) (k : Nat) (C' : Blk) (e : [rdB b p, B][k]? = some C') : ∃ q : Nat, [i, j][k]? = some q ∧ H[q]? = some (rnB (emb [i, j] H.length) C') := by
  match k, e with
  | 0, e => simp at e; subst e; exact ⟨i, rfl, hi⟩
  | 1, e => simp at e; subst e; exact ⟨j, rfl, by rw [nrs_rn _ hB]; exact hj⟩
  | k + 2, e => simp at e
theorem CallThen.rdOf {N n0 : Nat} {Q : QT} {k : List It} {τ : Tau} {h : Go.W.H} {d : Option Nat} {b : List UInt8} {p : Int} {l : List ByteArray} {i j n : Nat} (hb : b.length ≤ 2000) (h0 : 0 ≤ p) (h1 : p ≤ 1000000) (hl : l.length = n) (hn0 : 1 ≤ n) (hn : n ≤ 1000000) (hij : i ≠ j) (hi : h[i]? = some (rdB b p)) (hj : h[j]? = some ⟨tB l, 1, n, true⟩) (m : Nat)
    (hr : ∀ s ∈ l, Run C N n0 m Q k (upo d (.s (.string s)) τ) (h.set i (rdB b (p + 1)))) : CallThen C N n0 Q 114 [.ptr i 0 0, .sl j 0 n n] d k τ h := by
  subst hl
  refine CallThen.of m (CallsV.frame (walk114 b p l hb h0 h1 hn0 hn) [i, j] h rfl (by simp [hij]) (rd_two (tB_nr l) h hi hj)) fun res h' ⟨r, h1, ⟨s, q0, q1, q2⟩, q3, q4⟩ => ?_
  subst q1; subst q2; subst q3; subst q4
  have e : setAll h [i, j] (List.map (rnB (emb [i, j] h.length)) [rdB b (p + 1), ⟨tB l, 1, l.length, true⟩]) = h.set i (rdB b (p + 1)) := by
    show setAll h [i, j] [rnB _ _, rnB _ _] = _
    rw [nrs_rn _ (B := rdB b (p + 1)) rfl, nrs_rn _ (B := ⟨tB l, 1, l.length, true⟩) (tB_nr l), setAll_cons, setAll_cons, setAll_nil, List.append_nil]
    refine List.ext_getElem? fun q => ?_
    by_cases e : q = j
    · subst e
      have hlt := (List.getElem?_eq_some_iff.1 hj).1
      rw [List.getElem?_set_self (by simpa using hlt), List.getElem?_set_ne hij, hj]
    · rw [List.getElem?_set_ne (fun x => e x.symm)]
  rw [e]; exact hr s q0
theorem CallThen.rdNum {N n0 : Nat} {Q : QT} {k : List It} {τ : Tau} {h : Go.W.H} {d : Option Nat} {b : List UInt8} {p : Int} {l : List Int} {i j n : Nat} (hb : b.length ≤ 2000) (h0 : 0 ≤ p) (h1 : p ≤ 1000000) (hl : l.length = n) (hn0 : 1 ≤ n) (hn : n ≤ 1000000) (hij : i ≠ j) (hi : h[i]? = some (rdB b p)) (hj : h[j]? = some ⟨iB l, 1, n, true⟩) (m : Nat)
    (hr : ∀ s ∈ l, Run C N n0 m Q k (upo d (.s (.int .i64 s)) τ) (h.set i (rdB b (p + 1)))) : CallThen C N n0 Q 115 [.ptr i 0 0, .sl j 0 n n] d k τ h := by
  subst hl
  refine CallThen.of m (CallsV.frame (walk115 b p l hb h0 h1 hn0 hn) [i, j] h rfl (by simp [hij]) (rd_two (iB_nr l) h hi hj)) fun res h' ⟨r, h1, ⟨s, q0, q1, q2⟩, q3, q4⟩ => ?_
  subst q1; subst q2; subst q3; subst q4
  have e : setAll h [i, j] (List.map (rnB (emb [i, j] h.length)) [rdB b (p + 1), ⟨iB l, 1, l.length, true⟩]) = h.set i (rdB b (p + 1)) := by
    show setAll h [i, j] [rnB _ _, rnB _ _] = _
    rw [nrs_rn _ (B := rdB b (p + 1)) rfl, nrs_rn _ (B := ⟨iB l, 1, l.length, true⟩) (iB_nr l), setAll_cons, setAll_cons, setAll_nil, List.append_nil]
    refine List.ext_getElem? fun q => ?_
    by_cases e : q = j
    · subst e
      have hlt := (List.getElem?_eq_some_iff.1 hj).1
      rw [List.getElem?_set_self (by simpa using hlt), List.getElem?_set_ne hij, hj]
    · rw [List.getElem?_set_ne (fun x => e x.symm)]
  rw [e]; exact hr s q0
theorem walk116 (s : ByteArray) (n : Nat) (hn : n ≤ 1000000) (h : s.size * n ≤ 1000000000) : CallsV C 116 [.s (.string s), .s (.int .i64 n)] [] fun res h' => ∃ t : ByteArray, t.size = s.size * n ∧ res = .ret (.s (.string t)) ∧ h' = [] := by
  refine calls_of_run Try.func116 rfl (by kernel_rfl) (by kernel_rfl) (by simp) 1000 ?_
  simp +contextual (maxSteps := 2000000) (disch := ((try unfold LIM at *); omega)) only [↓bcase_true, ↓bcase_false, WA, simprocAttr, wrap_i64]
  refine LoopThen.pure (ι := ByteArray × Nat × ByteArray) (fun q => q.2.2.size + q.1.size * q.2.1 = s.size * n ∧ q.2.1 ≤ n) (fun q => keepL [(0, .s (.string q.1)), (1, .s (.int .i64 q.2.1)), (5, .s (.string q.2.2))]) (fun q => q.2.1) 6 [0, 1, 5] 1000 1000 ⟨(s, n, ⟨#[]⟩), ⟨by show 0 + _ = _; exact Nat.zero_add _, Nat.le_refl _⟩, by simp +contextual (maxSteps := 2000000) (disch := ((try unfold LIM at *); omega)) only [↓bcase_true, ↓bcase_false, WA, simprocAttr, wrap_i64]⟩ ?_
  rintro ⟨t, m, out⟩ ⟨p1, p2⟩
  simp only at p1 p2
  by_cases d : (0 : Int) < m
  · have e1 : (m : Int).tmod 2 = ((m % 2 : Nat) : Int) := by rw [Int.tmod_eq_emod_of_nonneg (by omega)]; omega
    have e2 : (m : Int).tdiv 2 = ((m / 2 : Nat) : Int) := by rw [Int.tdiv_eq_ediv_of_nonneg (by omega)]; omega
    have z0 : t.size * 1 ≤ t.size * m := Nat.mul_le_mul_left _ (by omega)
    have z1 : t.size + t.size ≤ LIM := by unfold LIM; omega
    have z2 : out.size + t.size ≤ LIM := by unfold LIM; omega
    obtain ⟨j, hj⟩ : ∃ j, j = m / 2 := ⟨_, rfl⟩
    have zz : (t.size + t.size) * j = t.size * (2 * j) := by rw [Nat.two_mul, Nat.mul_add, Nat.add_mul]
    by_cases odd : m % 2 = 1
    · have hm : m = 2 * j + 1 := by omega
      have e3 : ((m % 2 : Nat) : Int) = 1 := by omega
      have zm : t.size * m = t.size * (2 * j) + t.size := by rw [hm, Nat.mul_add, Nat.mul_one]
      simp +contextual (maxSteps := 2000000) (disch := ((try unfold LIM at *); omega)) only [↓bcase_true, ↓bcase_false, WA, simprocAttr, wrap_i64, d, e1, e2, e3, z1, z2]
      exact ⟨(t ++ t, m / 2, out ++ t), ⟨⟨by simp only [ByteArray.size_append]; rw [← hj, zz]; omega, by simp only; omega⟩, by simp only; omega⟩, rfl⟩
    · have hm : m = 2 * j := by omega
      have e3 : ((m % 2 : Nat) : Int) = 0 := by omega
      have zm : t.size * m = t.size * (2 * j) := by rw [hm]
      simp +contextual (maxSteps := 2000000) (disch := ((try unfold LIM at *); omega)) only [↓bcase_true, ↓bcase_false, WA, simprocAttr, wrap_i64, d, e1, e2, e3, z1, z2]
      exact ⟨(t ++ t, m / 2, out), ⟨⟨by simp only [ByteArray.size_append]; rw [← hj, zz]; omega, by simp only; omega⟩, by simp only; omega⟩, rfl⟩
  · have e : m = 0 := by omega
    subst e
    simp +contextual (maxSteps := 2000000) (disch := ((try unfold LIM at *); omega)) only [↓bcase_true, ↓bcase_false, WA, simprocAttr, wrap_i64, d]
    exact Up.gc (.s (.string out)) [] [] (by simp) trivial rfl ⟨out, by simpa using p1, rfl, rfl⟩
theorem walk81 (b : List UInt8) (p : Int) (hb : b.length ≤ 2000) (h0 : 0 ≤ p) (h1 : p ≤ 900000) :
    CallsV C 81 [.ptr 0 0 0] [rdB b p] fun res h' => ∃ (o : Opn) (q : Int), oneO o ≤ 100 ∧ (p ≤ q ∧ q ≤ p + 5) ∧ res = .ret (.agg (oV o)) ∧ h' = [rdB b q] := by
  refine calls_of_run Try.func81 rfl (by kernel_rfl) (by kernel_rfl) (by simp) 1000 ?_
  simp +contextual (maxSteps := 2000000) (disch := ((try unfold LIM at *); omega)) only [↓bcase_true, ↓bcase_false, WA, simprocAttr, wrap_i64]
  refine CallThen.pick hb h0 (by omega) (by omega) (by omega) rfl 1000 fun x1 hx0 hx1 => ?_
  simp +contextual (maxSteps := 2000000) (disch := ((try unfold LIM at *); omega)) only [↓bcase_true, ↓bcase_false, WA, simprocAttr, wrap_i64]
  refine CallThen.rdOf (l := [⟨#[97]⟩, ⟨#[98]⟩, ⟨#[99]⟩, ⟨#[108, 111, 103]⟩]) hb (by omega) (by omega) rfl (by omega) (by omega) (by simp) rfl rfl 1000 fun s1 hs1 => ?_
  have z1 : s1.size ≤ 10 := by
    simp only [List.mem_cons, List.not_mem_nil, or_false] at hs1
    rcases hs1 with rfl | rfl | rfl | rfl <;> decide
  simp +contextual (maxSteps := 2000000) (disch := ((try unfold LIM at *); omega)) only [↓bcase_true, ↓bcase_false, WA, simprocAttr, wrap_i64]
  refine CallThen.rdOf (l := [⟨#[]⟩, ⟨#[49]⟩, ⟨#[97, 98, 99]⟩, ⟨#[97]⟩, ⟨#[98]⟩, ⟨#[48, 49, 50, 51, 52, 53, 54, 55, 56, 57]⟩]) hb (by omega) (by omega) rfl (by omega) (by omega) (by simp) rfl rfl 1000 fun s2 hs2 => ?_
  have z2 : s2.size ≤ 10 := by
    simp only [List.mem_cons, List.not_mem_nil, or_false] at hs2
    rcases hs2 with rfl | rfl | rfl | rfl | rfl | rfl <;> decide
  simp +contextual (maxSteps := 2000000) (disch := ((try unfold LIM at *); omega)) only [↓bcase_true, ↓bcase_false, WA, simprocAttr, wrap_i64]
  refine CallThen.pick hb (by omega) (by omega) (by omega) (by omega) rfl 1000 fun x2 hy0 hy1 => ?_
  have fin : ∀ (o : Opn) (q : Int) (h : Go.W.H), oneO o ≤ 100 → p ≤ q → q ≤ p + 5 → h[0]? = some (rdB b q) → Up 1 (fun res h' => ∃ (o : Opn) (q : Int), oneO o ≤ 100 ∧ (p ≤ q ∧ q ≤ p + 5) ∧ res = .ret (.agg (oV o)) ∧ h' = [rdB b q]) (.ret (.agg (oV o))) h := by
    intro o q h e1 e2 e3 e4
    exact Up.keep [rdB b q] (fun _ => rfl) rfl (by show gcL _ _ [0] _; exact ⟨.inl ⟨rfl, e4⟩, trivial⟩) ⟨o, q, e1, ⟨e2, e3⟩, rfl, rfl⟩
  by_cases c : x2 = 0
  · simp +contextual (maxSteps := 2000000) (disch := ((try unfold LIM at *); omega)) only [↓bcase_true, ↓bcase_false, WA, simprocAttr, wrap_i64, c]
    refine CallThen.pick hb (by omega) (by omega) (by omega) (by omega) rfl 1000 fun x3 hw0 hw1 => ?_
    simp +contextual (maxSteps := 2000000) (disch := ((try unfold LIM at *); omega)) only [↓bcase_true, ↓bcase_false, WA, simprocAttr, wrap_i64, List.set_cons_zero, List.set_cons_succ]
    refine fin (x3 - 1, s1, s2) (p + 1 + 1 + 1 + 1 + 1) _ (by simp only [oneO]; omega) (by omega) (by omega) ?_
    rfl
  · simp +contextual (maxSteps := 2000000) (disch := ((try unfold LIM at *); omega)) only [↓bcase_true, ↓bcase_false, WA, simprocAttr, wrap_i64, c]
    refine fin (1 + x1, s1, s2) (p + 1 + 1 + 1 + 1) _ (by simp only [oneO]; omega) (by omega) (by omega) ?_
    rfl
end Go.Proofs.Ytpcgnmoogjahbaa
/- part D37 -/
set_option linter.unusedVariables false
set_option linter.unusedSimpArgs false
set_option maxRecDepth 100000
namespace Go.Proofs.Ytpcgnmoogjahbaa
open Go Go.W Go.RowKit
theorem NewDB.fin {fl : List Fl} {ol : List Opn} {cap : Int} {bb : Bool} {b1 b2 c1 c2 : Nat} {h : Go.W.H} (h1 : h[b1]? = some ⟨fl.map fV, 2, c1, true⟩) (h2 : h[b2]? = some ⟨ol.map oV, 3, c2, true⟩) (hne : b1 ≠ b2) (hc1 : fl.length ≤ c1) (hc2 : ol.length ≤ c2) :
    Up 0 (fun res h' => ∃ c1 c2, fl.length ≤ c1 ∧ ol.length ≤ c2 ∧ res = .ret (.tup [.agg (dO fl ol cap 0 c1 1 c2), .s (.bool bb)]) ∧ h' = dH fl ol c1 c2) (.ret (.tup [.agg [.sl b1 0 fl.length c1, .sl b2 0 ol.length c2, .s (.int .i64 cap)], .s (.bool bb)])) h := by
  refine Up.gc (.tup [.agg (dO fl ol cap 0 c1 1 c2), .s (.bool bb)]) [b1, b2] (dH fl ol c1 c2) (by simp [hne]) ?_ ?_ ⟨c1, c2, hc1, hc2, rfl, rfl⟩
  · exact ⟨.inl ⟨nrs_map fV_nr _, h1⟩, .inl ⟨nrs_map oV_nr _, h2⟩, trivial⟩
  · rfl
theorem own37 (fl : List Fl) (ol : List Opn) (cap : Int) (o : Opn) (S : Sized fl ol 1048576) (ho : oneO o ≤ 1048576) (g : Good fl ol cap) (hd : diskOk fl ol cap = true) :
    NewDB 37 [.agg (dV fl ol cap), .agg (oV o)] fl (doOl fl ol cap o) cap (goB fl ol cap o) := by
  refine calls_of_run Try.func37 rfl (by kernel_rfl) (by kernel_rfl) (by simp) 1000 ?_
  simp +contextual (maxSteps := 2000000) (disch := ((try unfold LIM at *); omega)) only [↓bcase_true, ↓bcase_false, WA, simprocAttr, wrap_i64, dV, oV]
  refine CallThen.pure (walk31 fl ol cap S.f S.o S.b S.s) 1000 ?_
  simp +contextual (maxSteps := 2000000) (disch := ((try unfold LIM at *); omega)) only [↓bcase_true, ↓bcase_false, WA, simprocAttr, wrap_i64, dV, hd]
  refine CallThen.newD (new85 fl ol cap S.f S.o) 6 (by simp +contextual (maxSteps := 2000000) (disch := ((try unfold LIM at *); omega)) only [↓bcase_true, ↓bcase_false, WA, simprocAttr, wrap_i64, dV, frzs_f]) 1000 fun c1 c2 hc1 hc2 => ?_
  simp +contextual (maxSteps := 2000000) (disch := ((try unfold LIM at *); omega)) only [↓bcase_true, ↓bcase_false, WA, simprocAttr, wrap_i64, dO, dH]
  refine DrawThen.of 1000 [3, 4] (.old 0 (.old 1 (.old 2 (.old 3 (.old 4 (.old 5 (.old 6 (.old 7 (.old 8 (.old 9 (.old 10 (.old 11 (.old 12 (.old 13 (.old 14 (.old 15 (.old 17 (.old 19 (.old 20 (.go 16 (.go 18 (.go 21 (.new 22 (.new 23 .done)))))))))))))))))))))))) (panFree_body _ _) (by kernel_rfl) (by kernel_rfl) (by kernel_rfl) ?_
  by_cases e1 : o.1 < 1
  · have hb : goB fl ol cap o = false := by simp [goB]; omega
    have ed : doOl fl ol cap o = ol := by simp [doOl, hb]
    rw [ed, hb]
    simp +contextual (maxSteps := 2000000) (disch := ((try unfold LIM at *); omega)) only [↓bcase_true, ↓bcase_false, WA, simprocAttr, wrap_i64, dV, e1, List.length_map]
    refine NewDB.fin (b1 := 3) (b2 := 4) ?_ ?_ (by simp) hc1 hc2 <;> rfl
  by_cases e2 : 4 < o.1
  · have hb : goB fl ol cap o = false := by simp [goB]; omega
    have ed : doOl fl ol cap o = ol := by simp [doOl, hb]
    rw [ed, hb]
    simp +contextual (maxSteps := 2000000) (disch := ((try unfold LIM at *); omega)) only [↓bcase_true, ↓bcase_false, WA, simprocAttr, wrap_i64, dV, e1, e2, List.length_map]
    refine NewDB.fin (b1 := 3) (b2 := 4) ?_ ?_ (by simp) hc1 hc2 <;> rfl
  have e12 : 1 ≤ o.1 ∧ o.1 ≤ 4 := by omega
  by_cases e3 : (ol.length : Int) = 2000
  · have hb : goB fl ol cap o = false := by have : ol.length = 2000 := by omega
                                            simp [goB, this]
    have ed : doOl fl ol cap o = ol := by simp [doOl, hb]
    rw [ed, hb]
    simp +contextual (maxSteps := 2000000) (disch := ((try unfold LIM at *); omega)) only [↓bcase_true, ↓bcase_false, WA, simprocAttr, wrap_i64, dV, e1, e2, e3, List.length_map]
    refine NewDB.fin (b1 := 3) (b2 := 4) ?_ ?_ (by simp) hc1 hc2 <;> rfl
  generalize hl : seeS fl ol ol.length = l at *
  have pa : ascS l = true := hl ▸ g.asc _
  have sz : l.length ≤ 20 ∧ sizeF l ≤ 1000000 := hl ▸ g.size _
  have w86 := new86 fl ol cap g S.s
  rw [hl] at w86
  simp +contextual (maxSteps := 2000000) (disch := ((try unfold LIM at *); omega)) only [↓bcase_true, ↓bcase_false, WA, simprocAttr, wrap_i64, oV, e1, e2, e3, List.length_map]
  refine DCall.newB w86 (plains_map fV_plain _) 6 ?_ 1000 (.go 18 (.go 21 (.new 22 (.new 23 .done)))) (by kernel_rfl) fun cp hc => ?_
  · simp +contextual (maxSteps := 2000000) (disch := ((try unfold LIM at *); omega)) only [↓bcase_true, ↓bcase_false, WA, simprocAttr, wrap_i64, dV, List.length_map, own_fl, own_ol, fV_frz, oV_frz, Nat.not_lt_zero]
  rw [List.length_map] at hc
  have b2 := sizeF_get l o.2.1
  simp only [oneO] at ho
  have b1 := do_bound l o
  simp +contextual (maxSteps := 2000000) (disch := ((try unfold LIM at *); omega)) only [↓bcase_true, ↓bcase_false, WA, simprocAttr, wrap_i64, oV, List.length_map]
  refine DCall.newB (new71 l o (by omega) (by omega)) (plains_map fV_plain _) 6 ?_ 1000 (.go 21 (.new 22 (.new 23 .done))) (by kernel_rfl) fun cp' hc' => ?_
  · simp +contextual (maxSteps := 2000000) (disch := ((try unfold LIM at *); omega)) only [↓bcase_true, ↓bcase_false, WA, simprocAttr, wrap_i64, List.length_map, own_fl, fV_frz, Nat.not_lt_zero, oV]
  rw [List.length_map] at hc'
  simp +contextual (maxSteps := 2000000) (disch := ((try unfold LIM at *); omega)) only [↓bcase_true, ↓bcase_false, WA, simprocAttr, wrap_i64, List.length_map]
  refine DCall.borrow (walk70 (doS l o) cap (by omega)) (flat_s _) 6 ?_ 1000 (.new 22 (.new 23 .done)) (by kernel_rfl) ?_
  · simp +contextual (maxSteps := 2000000) (disch := ((try unfold LIM at *); omega)) only [↓bcase_true, ↓bcase_false, WA, simprocAttr, wrap_i64, List.length_map, fV_frz, Nat.not_lt_zero, own_fl]
  by_cases e4 : fits (doS l o) cap
  rotate_left
  · have hb : goB fl ol cap o = false := by simp [goB, hl, e4]
    have ed : doOl fl ol cap o = ol := by simp [doOl, hb]
    rw [ed, hb]
    simp +contextual (maxSteps := 2000000) (disch := ((try unfold LIM at *); omega)) only [↓bcase_true, ↓bcase_false, WA, simprocAttr, wrap_i64, e4, List.length_map]
    refine NewDB.fin (b1 := 3) (b2 := 4) ?_ ?_ (by simp) hc1 hc2 <;> rfl
  have hb : goB fl ol cap o = true := by simp [goB, hl, e12, e4]; omega
  have ed : doOl fl ol cap o = ol ++ [o] := by simp [doOl, hb]
  rw [ed, hb]
  have hol := g.late
  have q1 : (ol.length + 1) * 40 ≤ 140737488355328 := by omega
  have q2 : ol.length + 1 ≤ LIM := by unfold LIM; omega
  have hm : List.map oV ol ++ [[.s (.int .i64 o.1), .s (.string o.2.1), .s (.string o.2.2)]] = (ol ++ [o]).map oV := by simp [oV]
  have hl1 : ol.length + 1 = (ol ++ [o]).length := by simp
  have hle : ol.length + 1 ≤ (ol ++ [o]).length := by simp
  have tk : List.take (ol.length + 1) (List.map oV (ol ++ [o])) = (ol ++ [o]).map oV := List.take_of_length_le (by simp)
  rw [hl1] at q1 q2
  simp +contextual (maxSteps := 2000000) (disch := ((try unfold LIM at *); omega)) only [↓bcase_true, ↓bcase_false, WA, simprocAttr, wrap_i64, e4, leafs_map oV_ok, List.length_map, q1, q2, takeTo, List.take_length, take_map_len, hm, hl1]
  intro cap' hcap _
  refine NewDB.fin (b1 := 3) (b2 := 8) ?_ ?_ (by simp) hc1 hcap <;> rfl

theorem own37t (fl : List Fl) (ol : List Opn) (cap : Int) (o : Opn) (S : Sized fl ol 1048576) (ho : oneO o ≤ 1048576) : NewDB 37 [.agg (dV fl ol cap), .agg (oV o)] (opF fl ol cap) (opO fl ol cap o) (fallC fl ol cap) (opB fl ol cap o) := by
  cases c : diskOk fl ol cap with
  | true =>
    have e1 : opF fl ol cap = fl := by simp [opF, c]
    have e2 : opO fl ol cap o = doOl fl ol cap o := by simp [opO, c]
    have e3 : opB fl ol cap o = goB fl ol cap o := by simp [opB, c]
    have e4 : fallC fl ol cap = cap := by simp [fallC, c]
    rw [e1, e2, e3, e4]
    exact own37 fl ol cap o S ho (good_of c) c
  | false =>
    have e1 : opF fl ol cap = [] := by simp [opF, c]
    have e2 : opO fl ol cap o = [] := by simp [opO, c]
    have e3 : opB fl ol cap o = false := by simp [opB, c]
    have e4 : fallC fl ol cap = 0 := by simp [fallC, c]
    rw [e1, e2, e3, e4]
    refine calls_of_run Try.func37 rfl (by kernel_rfl) (by kernel_rfl) (by simp) 1000 ?_
    simp +contextual (maxSteps := 2000000) (disch := ((try unfold LIM at *); omega)) only [↓bcase_true, ↓bcase_false, WA, simprocAttr, wrap_i64, dV, oV]
    refine CallThen.pure (walk31 fl ol cap S.f S.o S.b S.s) 1000 ?_
    simp +contextual (maxSteps := 2000000) (disch := ((try unfold LIM at *); omega)) only [↓bcase_true, ↓bcase_false, WA, simprocAttr, wrap_i64, dV, c]
    refine Up.arr (Arr.nilV 2) (.inr ⟨_, [.agg [.sl 3 0 0 0, .z, .s (.int .i64 0)], .s (.bool false)], rfl, rfl, .inr ⟨_, _, rfl, rfl, .inr ⟨rfl, rfl⟩, .inl rfl, .inl rfl, trivial⟩, .inl rfl, trivial⟩) ?_
    refine Up.arr (Arr.nilV 3) (.inr ⟨_, [.agg [.sl 3 0 0 0, .sl 4 0 0 0, .s (.int .i64 0)], .s (.bool false)], rfl, rfl, .inr ⟨_, _, rfl, rfl, .inl rfl, .inr ⟨rfl, rfl⟩, .inl rfl, trivial⟩, .inl rfl, trivial⟩) ?_
    refine Up.gc (.tup [.agg (dO [] [] 0 0 0 1 0), .s (.bool false)]) [3, 4] (dH [] [] 0 0) (by simp) ?_ ?_ ⟨0, 0, Nat.le_refl _, Nat.le_refl _, rfl, rfl⟩
    · exact ⟨.inl ⟨rfl, rfl⟩, .inl ⟨rfl, rfl⟩, trivial⟩
    · rfl
theorem own56 (fl : List Fl) (ol : List Opn) (cap : Int) (S : Sized fl ol 1048576) : NewD 56 [.agg (dV fl ol cap)] (seeD fl ol cap) [] (fallC fl ol cap) := by
  refine calls_of_run Try.func56 rfl (by kernel_rfl) (by kernel_rfl) (by simp) 1000 ?_
  simp +contextual (maxSteps := 2000000) (disch := ((try unfold LIM at *); omega)) only [↓bcase_true, ↓bcase_false, WA, simprocAttr, wrap_i64, dV]
  refine CallThen.pure (walk31 fl ol cap S.f S.o S.b S.s) 1000 ?_
  cases c : diskOk fl ol cap with
  | true =>
    have e1 : seeD fl ol cap = seeS fl ol ol.length := by simp [seeD, c]
    have e2 : fallC fl ol cap = cap := by simp [fallC, c]
    rw [e1, e2]
    simp +contextual (maxSteps := 2000000) (disch := ((try unfold LIM at *); omega)) only [↓bcase_true, ↓bcase_false, WA, simprocAttr, wrap_i64, dV]
    refine DrawThen.of 1000 [1] (.old 0 (.old 2 (.old 3 (.go 1 (.new 4 (.go 5 .done)))))) (panFree_body _ _) (by kernel_rfl) (by kernel_rfl) (by kernel_rfl) ?_
    simp +contextual (maxSteps := 2000000) (disch := ((try unfold LIM at *); omega)) only [↓bcase_true, ↓bcase_false, WA, simprocAttr, wrap_i64]
    refine DCall.new (new86 fl ol cap (good_of c) S.s) (nrs_map fV_nr _) (fun _ => rfl) 1000 (.new 4 (.go 5 .done)) (by kernel_rfl) fun cp hc => ?_
    rw [List.length_map] at hc
    simp +contextual (maxSteps := 2000000) (disch := ((try unfold LIM at *); omega)) only [↓bcase_true, ↓bcase_false, WA, simprocAttr, wrap_i64, List.length_map]
    refine Up.arr (Arr.nilV 3) (.inl (.inr ⟨_, [.sl 2 0 (seeS fl ol ol.length).length cp, .sl 3 0 0 0, .s (.int .i64 cap)], rfl, rfl, .inl rfl, .inr ⟨rfl, rfl⟩, .inl rfl, trivial⟩)) ?_
    refine Up.gc (.agg (dO (seeS fl ol ol.length) [] cap 0 cp 1 0)) [2, 3] (dH (seeS fl ol ol.length) [] cp 0) (by simp) ?_ ?_ ⟨cp, 0, hc, Nat.le_refl _, rfl, rfl⟩
    · exact ⟨.inl ⟨nrs_map fV_nr _, rfl⟩, .inl ⟨rfl, rfl⟩, trivial⟩
    · rfl
  | false =>
    have e1 : seeD fl ol cap = [] := by simp [seeD, c]
    have e2 : fallC fl ol cap = 0 := by simp [fallC, c]
    rw [e1, e2]
    simp +contextual (maxSteps := 2000000) (disch := ((try unfold LIM at *); omega)) only [↓bcase_true, ↓bcase_false, WA, simprocAttr, wrap_i64, dV]
    refine Up.arr (Arr.nilV 2) (.inl (.inr ⟨_, [.sl 2 0 0 0, .z, .s (.int .i64 0)], rfl, rfl, .inr ⟨rfl, rfl⟩, .inl rfl, .inl rfl, trivial⟩)) ?_
    refine Up.arr (Arr.nilV 3) (.inl (.inr ⟨_, [.sl 2 0 0 0, .sl 3 0 0 0, .s (.int .i64 0)], rfl, rfl, .inl rfl, .inr ⟨rfl, rfl⟩, .inl rfl, trivial⟩)) ?_
    refine Up.gc (.agg (dO [] [] 0 0 0 1 0)) [2, 3] (dH [] [] 0 0) (by simp) ?_ ?_ ⟨0, 0, Nat.le_refl _, Nat.le_refl _, rfl, rfl⟩
    · exact ⟨.inl ⟨rfl, rfl⟩, .inl ⟨rfl, rfl⟩, trivial⟩
    · rfl
end Go.Proofs.Ytpcgnmoogjahbaa
/- part W40 -/
set_option linter.unusedVariables false
set_option linter.unusedSimpArgs false
namespace Go.W
open Go Go.RowKit

/-! ### A nil slice that lies in a block is given a block of its own; what is answered is frozen -/
section
variable {C : Cx} {h : H} {n0 : Nat}
theorem ls_nil {φ : Phi} {w : World} {b m : Nat} (hb : φ.m b = some (none, m)) : ∀ {el el' : List V} {vs : List Value} {fp : Fp}, All2 (nilC1 b) el el' → Ls (Dc φ w) el vs fp → Ls (Dc φ w) el' vs fp
  | [], [], vs, fp, _, h => h
  | x :: xs, x' :: xs', vs, fp, a, h => by
    simp only [Ls] at *
    obtain ⟨v, r, f1, f2, e1, e2, h1, h2⟩ := h
    refine ⟨v, r, f1, f2, e1, e2, ?_, ls_nil hb a.2 h2⟩
    rcases a.1 with e | ⟨ez, es⟩
    · rw [e]; exact h1
    · subst ez; subst es
      have key : ∀ v, RZ φ.z .z v → RelC φ (.sl b 0 0 0) v := fun v q => ⟨none, m, hb, Nat.le_refl _, by simp only [RZ] at q; exact q, rfl, rfl, rfl⟩
      rcases h1 with ⟨q, e⟩ | q
      · exact .inl ⟨key _ q, e⟩
      · simp only [T] at q
        exact .inl ⟨key _ q.1, q.2⟩
  | [], _ :: _, _, _, a, _ => a.elim
  | _ :: _, [], _, _, a, _ => a.elim
theorem lss_nil {φ : Phi} {w : World} {b m n : Nat} (hb : φ.m b = some (none, m)) : ∀ {els els' : List (List V)} {vs : List Value} {fp : Fp}, All2 (All2 (nilC1 b)) els els' → Lss (Dc φ w) n els vs fp → Lss (Dc φ w) n els' vs fp
  | [], [], vs, fp, _, h => h
  | x :: xs, x' :: xs', vs, fp, a, h => by
    simp only [Lss] at *
    obtain ⟨h0, f1, f2, e2, h1, h2⟩ := h
    have hlen : ∀ {xs xs' : List V}, All2 (nilC1 b) xs xs' → xs.length = xs'.length := fun {xs xs'} a => by
      induction xs generalizing xs' with
      | nil => cases xs' with | nil => rfl | cons _ _ => exact a.elim
      | cons y ys ih => cases xs' with | nil => exact a.elim | cons _ _ => simp [ih a.2]
    exact ⟨by rw [← hlen a.1]; exact h0, f1, f2, e2, ls_nil hb a.1 h1, lss_nil hb a.2 h2⟩
  | [], _ :: _, _, _, a, _ => a.elim
  | _ :: _, [], _, _, a, _ => a.elim
theorem all2_length {α β : Type} {R : α → β → Prop} : ∀ {xs : List α} {ys : List β}, All2 R xs ys → xs.length = ys.length
  | [], [], _ => rfl
  | x :: xs, y :: ys, h => by simp [all2_length h.2]
  | [], _ :: _, h => h.elim
  | _ :: _, [], h => h.elim
theorem all2_memR {α β : Type} {R : α → β → Prop} : ∀ {xs : List α} {ys : List β}, All2 R xs ys → ∀ y ∈ ys, ∃ x ∈ xs, R x y
  | [], [], _, y, hy => by simp at hy
  | x :: xs, z :: zs, h, y, hy => by
    rcases List.mem_cons.1 hy with rfl | hy
    · exact ⟨x, by simp, h.1⟩
    · obtain ⟨x', h1, h2⟩ := all2_memR h.2 y hy; exact ⟨x', by simp [h1], h2⟩
  | [], _ :: _, h, _, _ => h.elim
  | _ :: _, [], h, _, _ => h.elim
theorem Arr.nilCell {b n cap m : Nat} {els els' : List (List V)} (hb : h[b]? = some ⟨els, n, cap, true⟩) (ha : All2 (All2 (nilC1 h.length)) els els') : Arr n0 h (h.set b ⟨els', n, cap, true⟩ ++ [⟨[], m, 0, true⟩]) fun x x' => x' = x := by
  intro S w0 φ w ⟨F, R⟩ hn
  have hblt : b < h.length := (List.getElem?_eq_some_iff.1 hb).1
  have he : Ext φ (phiPush φ h.length (none, m)) := phiPush_ext (R.dom _ (Nat.le_refl _))
  obtain ⟨F1, R1⟩ := R.allocNil m
  have hb1 : (h ++ [(⟨[], m, 0, true⟩ : Blk)])[b]? = some ⟨els, n, cap, true⟩ := by rw [List.getElem?_append_left hblt]; exact hb
  obtain ⟨p, k1, k2, k3, k4⟩ := R1.place hb1 rfl
  simp only at k1 k2 k3
  have hlen := all2_length ha
  have e : h.set b ⟨els', n, cap, true⟩ ++ [(⟨[], m, 0, true⟩ : Blk)] = (h ++ [(⟨[], m, 0, true⟩ : Blk)]).set b ⟨els', n, cap, true⟩ := by rw [List.set_append_left _ _ hblt]
  rw [e]
  have hB : BlkRel (phiPush φ h.length (none, m)) w b ⟨els', n, cap, true⟩ (F1 b) := by
    unfold BlkRel; rw [if_pos rfl]
    refine ⟨p, k1, fun el hel => ?_, by simp only; omega, ?_⟩
    · obtain ⟨x, hx, a⟩ := all2_memR ha el hel
      rw [← all2_length a]; exact k2 x hx
    cases p with
    | none =>
      obtain ⟨e1, e2, e3⟩ := k4
      simp only at e1 e2
      refine ⟨?_, e2, e3⟩
      cases els' with
      | nil => rfl
      | cons _ _ => rw [e1] at hlen; simp at hlen
    | some k =>
      obtain ⟨c, ty, fq, q1, q2, q3, q4, q5⟩ := k4
      simp only at q2 q3 q4
      exact ⟨c, ty, fq, q1, q2, by simp only; omega, lss_nil phiPush_new ha q4, q5⟩
  refine ⟨phiPush φ h.length (none, m), ⟨_, R1.step (w' := w) (bo := b) (b0 := b) (B0 := ⟨els', n, cap, true⟩) (fp0 := F1 b) (Ext.refl _) rfl R1.kept (Nat.le_refl _) (by simp; omega) (by simp) (fun i hi => R1.dom i (by simpa using hi)) (fun _ _ _ => rfl) (.inl rfl) ?_
    (fun q => absurd rfl q) (fun i h1 h2 => by rw [List.getElem?_set_ne (Ne.symm h1)]) (fun k hk => .inl hk) (fun k hk => (R1.mine b k hk).2) (R1.nodup b) hB⟩, phiPush_extN (Nat.le_trans hn (Nat.le_refl _)), by simp; omega, fun x x' v hm r => by subst hm; exact r.ext he⟩
  rw [List.getElem?_set_self (by simp; omega)]
theorem Up.frzN {R : Res → H → Prop} {v : V} (d : Nat) (hs : H) (hl : hs.length = n0) (hg : gcL (nm (List.range n0) (killFrom n0 h).length) (killFrom n0 h) (List.range n0) hs) (hr : R (.ret (frz n0 d h v)) hs) : Up n0 R (.ret v) h :=
  ⟨frz n0 d h v, hs, _, (Arr.frz d).trans (Arr.gc (gcOk_ofN List.nodup_range (by rw [List.take_of_length_le (by simp)]) hg)), ⟨frz n0 d h v, .inr rfl, .inr (frz_closed _ n0 h d v).2.2.2.symm⟩, hr⟩
end
end Go.W
/- part D38 -/
set_option linter.unusedVariables false
set_option linter.unusedSimpArgs false
set_option maxRecDepth 100000
namespace Go.Proofs.Ytpcgnmoogjahbaa
open Go Go.W Go.RowKit
/-- A disk as it is drawn. -/
structure Drawn (fl : List Fl) (ol : List Opn) : Prop where
  f : fl.length ≤ 30
  o : ol.length ≤ 30
  b : sizeF fl ≤ 100000
  s : ∀ o ∈ ol, oneO o ≤ 10000
theorem Drawn.sized {fl : List Fl} {ol : List Opn} (d : Drawn fl ol) : Sized fl ol 1048576 := ⟨by have := d.f; omega, by have := d.o; omega, by have := d.b; omega, fun o ho => by have := d.s o ho; omega⟩
theorem okS_app : ∀ {ol : List Opn} {fl : List Fl} {cap : Int} {o : Opn}, okS fl ol cap = true → (1 ≤ o.1 ∧ o.1 ≤ 4) → fits (doS (ol.foldl doS fl) o) cap → okS fl (ol ++ [o]) cap = true
  | [], fl, cap, o, _, h1, h2 => by
    have h2' : fits (doS fl o) cap := h2
    rw [List.nil_append, okS, if_neg (by omega), if_pos h2', okS]
  | x :: r, fl, cap, o, h, h1, h2 => by
    rw [okS] at h
    rw [List.cons_append, okS]
    split at h
    · cases h
    · rename_i q
      rw [if_neg q]
      split at h
      · rename_i q2
        rw [if_pos q2]; exact okS_app h h1 h2
      · cases h
/-- An operation that is done leaves a disk that is ok. -/
theorem do_ok {fl : List Fl} {ol : List Opn} {cap : Int} {o : Opn} (h : diskOk fl ol cap = true) (hb : goB fl ol cap o = true) : diskOk fl (ol ++ [o]) cap = true := by
  have g := good_of h
  simp only [goB, Bool.and_eq_true, decide_eq_true_eq] at hb
  obtain ⟨h1, h2, h3⟩ := hb
  unfold diskOk at h ⊢
  split at h
  · cases h
  · rename_i q
    split at h
    · cases h
    · rename_i q2
      have hl := g.late
      rw [if_neg (by rintro (x | x | x | x) <;> first | exact q (.inl x) | exact q (.inr (.inl x)) | exact q (.inr (.inr (.inr x))) | (simp at x; omega)), if_neg q2]
      refine okS_app h h1 ?_
      have : seeS fl ol ol.length = ol.foldl doS fl := by unfold seeS; rw [List.take_length]
      rw [← this]; exact h3
theorem sync_ok {fl : List Fl} {ol : List Opn} {cap : Int} (h : diskOk fl ol cap = true) (i : Nat) : diskOk (seeS fl ol i) [] cap = true := by
  have g := good_of h
  unfold diskOk
  have h0 := g.cap0
  have h1 := g.cap1
  rw [if_neg (by rintro (x | x | x | x) <;> first | omega | exact x (g.fit i) | (simp at x)), if_neg (by simp [g.asc i])]
  rfl
theorem op_at {b : List UInt8} {p : Int} (hb : b.length ≤ 2000) (h0 : 0 ≤ p) (h1 : p ≤ 900000) {i : Nat} (H : Go.W.H) (hi : H[i]? = some (rdB b p)) :
    CallsV C 81 [.ptr i 0 0] H fun res h' => ∃ (o : Opn) (q : Int), (oneO o ≤ 100 ∧ p ≤ q ∧ q ≤ p + 5) ∧ res = .ret (.agg (oV o)) ∧ h' = H.set i (rdB b q) := by
  have := CallsV.frame (walk81 b p hb h0 h1) [i] H rfl (by simp) (fun j B e => by
    match j, e with
    | 0, e => simp at e; subst e; exact ⟨i, rfl, hi⟩
    | j + 1, e => simp at e)
  refine this.mono fun res h' ⟨r, h1, ⟨o, q, q0, q0', q1, q2⟩, q3, q4⟩ => ⟨o, q, ⟨q0, q0'⟩, ?_, ?_⟩
  · rw [q3, q1]; rfl
  · rw [q4, q2]
    show setAll H [i] [rnB _ (rdB b q)] = _
    rw [nrs_rn _ (B := rdB b q) rfl, setAll_cons, setAll_nil, List.append_nil]
theorem DCall.rdOp {N n0 : Nat} {Q : QT} {k : List It} {τ : Tau} {h : Go.W.H} {h0' : Go.W.H} {exc : List Nat} {ops : Array Oper} {fuel : Nat} {listed : Array Bool} {d : Option Nat} {nw : List Nat} {b : List UInt8} {p : Int} {i : Nat} (hb : b.length ≤ 2000) (h0 : 0 ≤ p) (h1 : p ≤ 900000) (hi : (hide h0' exc h)[i]? = some (rdB b p)) (m : Nat) (td : TD) (hd : drawOk ops [] listed td = true)
    (hr : ∀ o q, oneO o ≤ 100 → p ≤ q → q ≤ p + 5 → RunD C N n0 m Q k h0' exc ops fuel listed td (addN d nw) (upo d (.agg (oV o)) τ) (show_ h0' exc h ((hide h0' exc h).set i (rdB b q)))) : DCall C N n0 Q h0' exc ops fuel listed k 81 [.ptr i 0 0] d nw τ h :=
  DCall.of m td hd (op_at hb h0 h1 _ hi) fun res h' ⟨o, q, e1, e2, e3⟩ => by subst e2; subst e3; exact hr o q e1.1 e1.2.1 e1.2.2
theorem CallThen.rdOp {N n0 : Nat} {Q : QT} {k : List It} {τ : Tau} {h : Go.W.H} {d : Option Nat} {b : List UInt8} {p : Int} {i : Nat} (hb : b.length ≤ 2000) (h0 : 0 ≤ p) (h1 : p ≤ 900000) (hi : h[i]? = some (rdB b p)) (m : Nat)
    (hr : ∀ o q, oneO o ≤ 100 → p ≤ q → q ≤ p + 5 → Run C N n0 m Q k (upo d (.agg (oV o)) τ) (h.set i (rdB b q))) : CallThen C N n0 Q 81 [.ptr i 0 0] d k τ h :=
  CallThen.of m (op_at hb h0 h1 h hi) fun res h' ⟨o, q, e1, e2, e3⟩ => by subst e2; subst e3; exact hr o q e1.1 e1.2.1 e1.2.2
structure InD (p : Int) (i : Int) (fl : List Fl) (ol : List Opn) (cap q : Int) (c1 c2 : Nat) : Prop where
  ok : diskOk fl ol cap = true
  c : cap ≤ 1000
  n : (ol.length : Int) + i ≤ 12
  i0 : 0 ≤ i
  q0 : p ≤ q
  q1 : q ≤ p + 80 - 6 * i
  s : ∀ o ∈ ol, oneO o ≤ 100
  h1 : fl.length ≤ c1
  h2 : ol.length ≤ c2
theorem num_at {b : List UInt8} {p : Int} {l : List Int} {i j n : Nat} (hb : b.length ≤ 2000) (h0 : 0 ≤ p) (h1 : p ≤ 1000000) (hl : l.length = n) (hn0 : 1 ≤ n) (hn : n ≤ 1000000) (hij : i ≠ j) (h : Go.W.H) (hi : h[i]? = some (rdB b p)) (hj : h[j]? = some ⟨iB l, 1, n, true⟩) :
    CallsV C 115 [.ptr i 0 0, .sl j 0 n n] h fun res h' => ∃ s ∈ l, res = .ret (.s (.int .i64 s)) ∧ h' = h.set i (rdB b (p + 1)) := by
  subst hl
  refine (CallsV.frame (walk115 b p l hb h0 h1 hn0 hn) [i, j] h rfl (by simp [hij]) (rd_two (iB_nr l) h hi hj)).mono fun res h' ⟨r, h1, ⟨s, q0, q1, q2⟩, q3, q4⟩ => ⟨s, q0, ?_, ?_⟩
  · rw [q3, q1]; rfl
  · rw [q4, q2]
    show setAll h [i, j] [rnB _ _, rnB _ _] = _
    rw [nrs_rn _ (B := rdB b (p + 1)) rfl, nrs_rn _ (B := ⟨iB l, 1, l.length, true⟩) (iB_nr l), setAll_cons, setAll_cons, setAll_nil, List.append_nil]
    refine List.ext_getElem? fun q => ?_
    by_cases e : q = j
    · subst e
      have hlt := (List.getElem?_eq_some_iff.1 hj).1
      rw [List.getElem?_set_self (by simpa using hlt), List.getElem?_set_ne hij, hj]
    · rw [List.getElem?_set_ne (fun x => e x.symm)]
theorem DCall.rdNum {N n0 : Nat} {Q : QT} {k : List It} {τ : Tau} {h : Go.W.H} {h0' : Go.W.H} {exc : List Nat} {ops : Array Oper} {fuel : Nat} {listed : Array Bool} {d : Option Nat} {nw : List Nat} {b : List UInt8} {p : Int} {l : List Int} {i j n : Nat} (hb : b.length ≤ 2000) (h0 : 0 ≤ p) (h1 : p ≤ 1000000) (hl : l.length = n) (hn0 : 1 ≤ n) (hn : n ≤ 1000000) (hij : i ≠ j) (hi : (hide h0' exc h)[i]? = some (rdB b p)) (hj : (hide h0' exc h)[j]? = some ⟨iB l, 1, n, true⟩) (m : Nat) (td : TD) (hd : drawOk ops [] listed td = true)
    (hr : ∀ s ∈ l, RunD C N n0 m Q k h0' exc ops fuel listed td (addN d nw) (upo d (.s (.int .i64 s)) τ) (show_ h0' exc h ((hide h0' exc h).set i (rdB b (p + 1))))) : DCall C N n0 Q h0' exc ops fuel listed k 115 [.ptr i 0 0, .sl j 0 n n] d nw τ h :=
  DCall.of m td hd (num_at hb h0 h1 hl hn0 hn hij _ hi hj) fun res h' ⟨s, e1, e2, e3⟩ => by subst e2; subst e3; exact hr s e1
theorem DCall.many {N n0 : Nat} {Q : QT} {k : List It} {τ : Tau} {h : Go.W.H} {h0' : Go.W.H} {exc : List Nat} {ops : Array Oper} {fuel : Nat} {listed : Array Bool} {d : Option Nat} {nw : List Nat} (s : ByteArray) (n : Nat) (hn : n ≤ 1000000) (hs : s.size * n ≤ 1000000000) (m : Nat) (td : TD) (hd : drawOk ops [] listed td = true)
    (hr : ∀ t : ByteArray, t.size = s.size * n → RunD C N n0 m Q k h0' exc ops fuel listed td (addN d nw) (upo d (.s (.string t)) τ) h) : DCall C N n0 Q h0' exc ops fuel listed k 116 [.s (.string s), .s (.int .i64 n)] d nw τ h := by
  refine DCall.of m td hd (CallsV.frame (walk116 s n hn hs) [] (hide h0' exc h) rfl (by simp) (fun i B e => by simp at e)) fun res h' ⟨r, h1, ⟨t, q0, q1, q2⟩, q3, q4⟩ => ?_
  subst q1; subst q2; subst q3; subst q4
  show RunD _ _ _ _ _ _ _ _ _ _ _ _ _ _ (unmask h0'.length exc 0 h (setAll (mask h0'.length exc 0 h) [] []))
  rw [setAll_nil, List.append_nil, show_hide]
  exact hr t q0
theorem fV_frzN (n0 d : Nat) (h : Go.W.H) (l : List Fl) : ((l.map fV).map fun el => el.map (frz n0 d h)) = l.map fV := frz_els (nrs_map fV_nr l) (leafs_map fV_ok l)
theorem oV_frzN (n0 d : Nat) (h : Go.W.H) (l : List Opn) : ((l.map oV).map fun el => el.map (frz n0 d h)) = l.map oV := frz_els (nrs_map oV_nr l) (leafs_map oV_ok l)
set_option maxHeartbeats 2000000 in
theorem walk82 (b : List UInt8) (p : Int) (hb : b.length ≤ 2000) (h0 : 0 ≤ p) (h1 : p ≤ 100000) :
    CallsV C 82 [.ptr 0 0 0] [rdB b p] fun res h' => ∃ fl ol cap q, Drawn fl ol ∧ (p ≤ q ∧ q ≤ p + 1000) ∧ res = .ret (.agg (dV fl ol cap)) ∧ h' = [rdB b q] := by
  refine calls_of_run Try.func82 rfl (by kernel_rfl) (by kernel_rfl) (by simp) 1000 ?_
  simp +contextual (maxSteps := 2000000) (disch := ((try unfold LIM at *); omega)) only [↓bcase_true, ↓bcase_false, WA, simprocAttr, wrap_i64]
  refine CallThen.rdNum (l := [0, 10, 20, 30, 60, 200, 1000]) hb (by omega) (by omega) rfl (by omega) (by omega) (by simp) rfl rfl 1000 fun cap hcap => ?_
  simp +contextual (maxSteps := 2000000) (disch := ((try unfold LIM at *); omega)) only [↓bcase_true, ↓bcase_false, WA, simprocAttr, wrap_i64]
  refine CallThen.pick hb (by omega) (by omega) (by omega) (by omega) rfl 1000 fun x1 hx0 hx1 => ?_
  have hcap' : 0 ≤ cap ∧ cap ≤ 1000 := by simp at hcap; omega
  simp +contextual (maxSteps := 2000000) (disch := ((try unfold LIM at *); omega)) only [↓bcase_true, ↓bcase_false, WA, simprocAttr, wrap_i64]
  refine LoopThen.arr (Arr.nilCell (b := 3) (m := 2) (els' := [[.sl 4 0 0 0, .z, .s (.int .i64 cap)]]) rfl ⟨⟨.inr ⟨rfl, rfl⟩, .inl rfl, .inl rfl, trivial⟩, trivial⟩) (fun _ => rfl) ?_
  simp +contextual (maxSteps := 2000000) (disch := ((try unfold LIM at *); omega)) only [↓bcase_true, ↓bcase_false, WA, simprocAttr, wrap_i64]
  refine LoopThen.arr (Arr.nilCell (b := 3) (m := 3) (els' := [[.sl 4 0 0 0, .sl 5 0 0 0, .s (.int .i64 cap)]]) rfl ⟨⟨.inl rfl, .inr ⟨rfl, rfl⟩, .inl rfl, trivial⟩, trivial⟩) (fun _ => rfl) ?_
  simp +contextual (maxSteps := 2000000) (disch := ((try unfold LIM at *); omega)) only [↓bcase_true, ↓bcase_false, WA, simprocAttr, wrap_i64]
  refine LoopThen.ownN 1 (ι := Int × List Fl × List Opn × Int × Int × Nat × Nat) (fun s => InD p s.1 s.2.1 s.2.2.1 s.2.2.2.1 s.2.2.2.2.1 s.2.2.2.2.2.1 s.2.2.2.2.2.2) (fun s => [(0, .ptr 0 0 0), (2, .ptr 1 0 0), (3, .ptr 2 0 0), (4, .s (.int .i64 s.1))])
    (fun s => [rdB b s.2.2.2.2.1, ⟨[[.z, .z, .s (.int .i64 0)]], 3, 1, true⟩, ⟨[dO s.2.1 s.2.2.1 s.2.2.2.1 3 s.2.2.2.2.2.1 4 s.2.2.2.2.2.2], 3, 1, true⟩, ⟨s.2.1.map fV, 2, s.2.2.2.2.2.1, true⟩, ⟨s.2.2.1.map oV, 3, s.2.2.2.2.2.2, true⟩]) (fun s => s.1.toNat) 1000 1000
    ⟨(x1, [], [], cap, p + 1 + 1, 0, 0), ⟨?_, hcap'.2, by simp; omega, hx0, by simp only; omega, by simp only; omega, by simp, Nat.le_refl _, Nat.le_refl _⟩, [0, 1, 3, 4, 5], ⟨by simp, rfl⟩, ⟨.inl ⟨rfl, rfl⟩, .inl ⟨rfl, rfl⟩, .inr rfl, .inl ⟨rfl, rfl⟩, .inl ⟨rfl, rfl⟩, trivial⟩, ⟨rfl, rfl, rfl, rfl, trivial⟩⟩ ?_
  · show diskOk [] [] cap = true
    have : fits [] cap := ⟨by simp, by simp [sizeF]; omega⟩
    unfold diskOk
    rw [if_neg (by rintro (x | x | x | x) <;> first | omega | exact x this | (simp at x)), if_neg (by simp [ascS])]
    rfl
  rintro ⟨i, fl, ol, cap, q, c1, c2⟩ I
  simp only at I
  by_cases d : 0 < i
  · have S : Sized fl ol 1048576 := by
      have g := good_of I.ok
      have := (g.size 0).2
      have hl := g.late
      exact ⟨by have := g.fl; omega, by omega, by rw [see_zero] at this; omega, fun o ho => by have := I.s o ho; omega⟩
    have g := good_of I.ok
    have i0 := I.i0
    have q0 := I.q0
    have q1 := I.q1
    have hc1 := I.h1
    have hc2 := I.h2
    simp +contextual (maxSteps := 2000000) (disch := ((try unfold LIM at *); omega)) only [↓bcase_true, ↓bcase_false, WA, simprocAttr, wrap_i64, dO, d]
    refine DrawThen.cut (ι := Opn × Int × Nat × Nat) (fun s => (oneO s.1 ≤ 100 ∧ q ≤ s.2.1 ∧ s.2.1 ≤ q + 5) ∧ fl.length ≤ s.2.2.1 ∧ (doOl fl ol cap s.1).length ≤ s.2.2.2) (fun s => [(0, .ptr 0 0 0), (2, .ptr 1 0 0), (3, .ptr 2 0 0), (4, .s (.int .i64 i)), (5, .ptr 7 0 0), (6, .s (.bool (goB fl ol cap s.1)))])
      (fun s => [rdB b s.2.1, ⟨[[.z, .z, .s (.int .i64 0)]], 3, 1, true⟩, ⟨[dO fl ol cap 3 c1 4 c2], 3, 1, true⟩, ⟨fl.map fV, 2, c1, true⟩, ⟨ol.map oV, 3, c2, true⟩, ⟨fl.map fV, 2, s.2.2.1, true⟩, ⟨(doOl fl ol cap s.1).map oV, 3, s.2.2.2, true⟩, ⟨[dO fl (doOl fl ol cap s.1) cap 5 s.2.2.1 6 s.2.2.2], 3, 1, true⟩]) 1000 ?_ ?_
    · skip
      refine DrawThen.of 1000 [0, 3, 4] (.old 0 (.old 1 (.or 2 (.or 3 (.new 4 (.new 5 (.new 6 (.go 7 (.go 8 (.new 9 .done)))))) (.go 7 (.go 3 (.new 4 (.new 5 (.new 6 (.go 8 (.new 9 .done)))))))) (.go 7 (.go 2 (.go 3 (.new 4 (.new 5 (.new 6 (.go 8 (.new 9 .done))))))))))) (panFree_loopN (panFree_loopN (panFree_body _ _))) (by kernel_rfl) (by kernel_rfl) (by kernel_rfl) ?_
      simp +contextual (maxSteps := 2000000) (disch := ((try unfold LIM at *); omega)) only [↓bcase_true, ↓bcase_false, WA, simprocAttr, wrap_i64, dO, dH]
      refine ⟨?_, ?_⟩
      · refine DCall.rdOp hb (by omega) (by omega) rfl 1000 (.or 3 (.new 4 (.new 5 (.new 6 (.go 7 (.go 8 (.new 9 .done)))))) (.go 7 (.go 3 (.new 4 (.new 5 (.new 6 (.go 8 (.new 9 .done)))))))) (by kernel_rfl) fun o q' ho1 ho2 ho3 => ?_
        simp +contextual (maxSteps := 2000000) (disch := ((try unfold LIM at *); omega)) only [↓bcase_true, ↓bcase_false, WA, simprocAttr, wrap_i64, dO, dH]
        refine ⟨?_, ?_⟩
        · refine DCall.newDB (own37 fl ol cap o S (by omega) g I.ok) 6 ?_ 1000 (.new 4 (.new 5 (.new 6 (.go 7 (.go 8 (.new 9 .done)))))) (by kernel_rfl) fun c3 c4 hc3 hc4 => ?_
          · simp +contextual (maxSteps := 2000000) (disch := ((try unfold LIM at *); omega)) only [↓bcase_true, ↓bcase_false, WA, simprocAttr, wrap_i64, dV, oV, List.length_map, own_fl, own_ol, fV_frz, oV_frz, Nat.not_lt_zero]
          simp +contextual (maxSteps := 2000000) (disch := ((try unfold LIM at *); omega)) only [↓bcase_true, ↓bcase_false, WA, simprocAttr, wrap_i64, dO, dH]
          repeat' apply And.intro
          all_goals
            first
            | exact joint_of (o, q', c3, c4) [0, 1, 2, 3, 4, 5, 6, 7] ⟨⟨ho1, ho2, ho3⟩, hc3, hc4⟩ (by simp) rfl ⟨.inl ⟨rfl, rfl⟩, .inl ⟨rfl, rfl⟩, .inr rfl, .inl ⟨nrs_map fV_nr _, rfl⟩, .inl ⟨nrs_map oV_nr _, rfl⟩, .inl ⟨nrs_map fV_nr _, rfl⟩, .inl ⟨nrs_map oV_nr _, rfl⟩, .inr rfl, trivial⟩ ⟨rfl, rfl, rfl, rfl, rfl, rfl, trivial⟩
            | exact joint_of (o, q', c3, c4) [0, 1, 2, 3, 4, 6, 7, 5] ⟨⟨ho1, ho2, ho3⟩, hc3, hc4⟩ (by simp) rfl ⟨.inl ⟨rfl, rfl⟩, .inl ⟨rfl, rfl⟩, .inr rfl, .inl ⟨nrs_map fV_nr _, rfl⟩, .inl ⟨nrs_map oV_nr _, rfl⟩, .inl ⟨nrs_map fV_nr _, rfl⟩, .inl ⟨nrs_map oV_nr _, rfl⟩, .inr rfl, trivial⟩ ⟨rfl, rfl, rfl, rfl, rfl, rfl, trivial⟩
        · refine DCall.newDB (own37 fl ol cap o S (by omega) g I.ok) 6 ?_ 1000 (.new 4 (.new 5 (.new 6 (.go 8 (.new 9 .done))))) (by kernel_rfl) fun c3 c4 hc3 hc4 => ?_
          · simp +contextual (maxSteps := 2000000) (disch := ((try unfold LIM at *); omega)) only [↓bcase_true, ↓bcase_false, WA, simprocAttr, wrap_i64, dV, oV, List.length_map, own_fl, own_ol, fV_frz, oV_frz, Nat.not_lt_zero]
          simp +contextual (maxSteps := 2000000) (disch := ((try unfold LIM at *); omega)) only [↓bcase_true, ↓bcase_false, WA, simprocAttr, wrap_i64, dO, dH]
          repeat' apply And.intro
          all_goals
            first
            | exact joint_of (o, q', c3, c4) [0, 1, 2, 3, 4, 5, 6, 7] ⟨⟨ho1, ho2, ho3⟩, hc3, hc4⟩ (by simp) rfl ⟨.inl ⟨rfl, rfl⟩, .inl ⟨rfl, rfl⟩, .inr rfl, .inl ⟨nrs_map fV_nr _, rfl⟩, .inl ⟨nrs_map oV_nr _, rfl⟩, .inl ⟨nrs_map fV_nr _, rfl⟩, .inl ⟨nrs_map oV_nr _, rfl⟩, .inr rfl, trivial⟩ ⟨rfl, rfl, rfl, rfl, rfl, rfl, trivial⟩
            | exact joint_of (o, q', c3, c4) [0, 1, 2, 3, 4, 6, 7, 5] ⟨⟨ho1, ho2, ho3⟩, hc3, hc4⟩ (by simp) rfl ⟨.inl ⟨rfl, rfl⟩, .inl ⟨rfl, rfl⟩, .inr rfl, .inl ⟨nrs_map fV_nr _, rfl⟩, .inl ⟨nrs_map oV_nr _, rfl⟩, .inl ⟨nrs_map fV_nr _, rfl⟩, .inl ⟨nrs_map oV_nr _, rfl⟩, .inr rfl, trivial⟩ ⟨rfl, rfl, rfl, rfl, rfl, rfl, trivial⟩
      · refine DCall.rdOp hb (by omega) (by omega) rfl 1000 (.go 3 (.new 4 (.new 5 (.new 6 (.go 8 (.new 9 .done)))))) (by kernel_rfl) fun o q' ho1 ho2 ho3 => ?_
        simp +contextual (maxSteps := 2000000) (disch := ((try unfold LIM at *); omega)) only [↓bcase_true, ↓bcase_false, WA, simprocAttr, wrap_i64, dO, dH]
        refine DCall.newDB (own37 fl ol cap o S (by omega) g I.ok) 6 ?_ 1000 (.new 4 (.new 5 (.new 6 (.go 8 (.new 9 .done))))) (by kernel_rfl) fun c3 c4 hc3 hc4 => ?_
        · simp +contextual (maxSteps := 2000000) (disch := ((try unfold LIM at *); omega)) only [↓bcase_true, ↓bcase_false, WA, simprocAttr, wrap_i64, dV, oV, List.length_map, own_fl, own_ol, fV_frz, oV_frz, Nat.not_lt_zero]
        simp +contextual (maxSteps := 2000000) (disch := ((try unfold LIM at *); omega)) only [↓bcase_true, ↓bcase_false, WA, simprocAttr, wrap_i64, dO, dH]
        repeat' apply And.intro
        all_goals
          first
          | exact joint_of (o, q', c3, c4) [0, 1, 2, 3, 4, 5, 6, 7] ⟨⟨ho1, ho2, ho3⟩, hc3, hc4⟩ (by simp) rfl ⟨.inl ⟨rfl, rfl⟩, .inl ⟨rfl, rfl⟩, .inr rfl, .inl ⟨nrs_map fV_nr _, rfl⟩, .inl ⟨nrs_map oV_nr _, rfl⟩, .inl ⟨nrs_map fV_nr _, rfl⟩, .inl ⟨nrs_map oV_nr _, rfl⟩, .inr rfl, trivial⟩ ⟨rfl, rfl, rfl, rfl, rfl, rfl, trivial⟩
          | exact joint_of (o, q', c3, c4) [0, 1, 2, 3, 4, 6, 7, 5] ⟨⟨ho1, ho2, ho3⟩, hc3, hc4⟩ (by simp) rfl ⟨.inl ⟨rfl, rfl⟩, .inl ⟨rfl, rfl⟩, .inr rfl, .inl ⟨nrs_map fV_nr _, rfl⟩, .inl ⟨nrs_map oV_nr _, rfl⟩, .inl ⟨nrs_map fV_nr _, rfl⟩, .inl ⟨nrs_map oV_nr _, rfl⟩, .inr rfl, trivial⟩ ⟨rfl, rfl, rfl, rfl, rfl, rfl, trivial⟩
    rintro ⟨o, q', c3, c4⟩ ⟨⟨ho1, ho2, ho3⟩, hc3, hc4⟩
    simp only at ho1 ho2 ho3 hc3 hc4
    have hn := I.n
    have seen : ∀ {ol' : List Opn}, diskOk fl ol' cap = true → (seeD fl ol' cap).length ≤ 20 ∧ fallC fl ol' cap = cap ∧ diskOk (seeD fl ol' cap) [] cap = true := by
      intro ol' h
      have e : seeD fl ol' cap = seeS fl ol' ol'.length := by simp [seeD, h]
      exact ⟨see_len, by simp [fallC, h], by rw [e]; exact sync_ok h _⟩
    cases hg : goB fl ol cap o with
    | true =>
      have ed : doOl fl ol cap o = ol ++ [o] := by simp [doOl, hg]
      rw [ed] at hc4 ⊢
      have hk := do_ok I.ok hg
      have hl : (ol ++ [o]).length = ol.length + 1 := by simp
      have hs : ∀ x ∈ ol ++ [o], oneO x ≤ 100 := by
        intro x hx
        rcases List.mem_append.1 hx with hx | hx
        · exact I.s x hx
        · simp at hx; subst hx; exact ho1
      have S' : Sized fl (ol ++ [o]) 1048576 := ⟨S.f, by omega, S.b, fun x hx => by have := hs x hx; omega⟩
      generalize ol ++ [o] = o2 at *
      simp +contextual (maxSteps := 2000000) (disch := ((try unfold LIM at *); omega)) only [↓bcase_true, ↓bcase_false, WA, simprocAttr, wrap_i64, dO]
      refine CallThen.pick hb (by omega) (by omega) (by omega) (by omega) rfl 1000 fun x2 hy0 hy1 => ?_
      by_cases e2 : x2 = 0
      · simp +contextual (maxSteps := 2000000) (disch := ((try unfold LIM at *); omega)) only [↓bcase_true, ↓bcase_false, WA, simprocAttr, wrap_i64, e2]
        refine CallThen.newD (own56 fl o2 cap S') 6 ?_ 1000 fun c5 c6 hc5 hc6 => ?_
        · simp +contextual (maxSteps := 2000000) (disch := ((try unfold LIM at *); omega)) only [↓bcase_true, ↓bcase_false, WA, simprocAttr, wrap_i64, dV, List.length_map, own_fl, own_ol, fV_frz, oV_frz, Nat.not_lt_zero]
        obtain ⟨z1, z2, z3⟩ := seen hk
        rw [z2]
        simp +contextual (maxSteps := 2000000) (disch := ((try unfold LIM at *); omega)) only [↓bcase_true, ↓bcase_false, WA, simprocAttr, wrap_i64, WB8, dO, dH]
        exact ⟨(i - 1, seeD fl o2 cap, [], cap, q' + 1, c5, c6), ⟨⟨z3, I.c, by simp; omega, by simp only; omega, by simp only; omega, by simp only; omega, by simp, hc5, hc6⟩, by simp only; omega⟩, [0, 1, 2, 8, 9], ⟨by simp, rfl⟩, ⟨.inl ⟨rfl, rfl⟩, .inl ⟨rfl, rfl⟩, .inr rfl, .inl ⟨nrs_map fV_nr _, rfl⟩, .inl ⟨nrs_map oV_nr _, rfl⟩, trivial⟩, rfl, rfl, rfl, rfl⟩
      · simp +contextual (maxSteps := 2000000) (disch := ((try unfold LIM at *); omega)) only [↓bcase_true, ↓bcase_false, WA, simprocAttr, wrap_i64, WB8, e2]
        exact ⟨(i - 1, fl, o2, cap, q' + 1, c3, c4), ⟨⟨hk, I.c, by simp only; omega, by simp only; omega, by simp only; omega, by simp only; omega, hs, hc3, hc4⟩, by simp only; omega⟩, [0, 1, 2, 5, 6], ⟨by simp, rfl⟩, ⟨.inl ⟨rfl, rfl⟩, .inl ⟨rfl, rfl⟩, .inr rfl, .inl ⟨nrs_map fV_nr _, rfl⟩, .inl ⟨nrs_map oV_nr _, rfl⟩, trivial⟩, rfl, rfl, rfl, rfl⟩
    | false =>
      simp +contextual (maxSteps := 2000000) (disch := ((try unfold LIM at *); omega)) only [↓bcase_true, ↓bcase_false, WA, simprocAttr, wrap_i64, dO]
      refine CallThen.pick hb (by omega) (by omega) (by omega) (by omega) rfl 1000 fun x2 hy0 hy1 => ?_
      by_cases e2 : x2 = 0
      · simp +contextual (maxSteps := 2000000) (disch := ((try unfold LIM at *); omega)) only [↓bcase_true, ↓bcase_false, WA, simprocAttr, wrap_i64, e2]
        refine CallThen.newD (own56 fl ol cap S) 6 ?_ 1000 fun c5 c6 hc5 hc6 => ?_
        · simp +contextual (maxSteps := 2000000) (disch := ((try unfold LIM at *); omega)) only [↓bcase_true, ↓bcase_false, WA, simprocAttr, wrap_i64, dV, List.length_map, own_fl, own_ol, fV_frz, oV_frz, Nat.not_lt_zero]
        obtain ⟨z1, z2, z3⟩ := seen I.ok
        rw [z2]
        simp +contextual (maxSteps := 2000000) (disch := ((try unfold LIM at *); omega)) only [↓bcase_true, ↓bcase_false, WA, simprocAttr, wrap_i64, WB8, dO, dH]
        exact ⟨(i - 1, seeD fl ol cap, [], cap, q' + 1, c5, c6), ⟨⟨z3, I.c, by simp; omega, by simp only; omega, by simp only; omega, by simp only; omega, by simp, hc5, hc6⟩, by simp only; omega⟩, [0, 1, 2, 8, 9], ⟨by simp, rfl⟩, ⟨.inl ⟨rfl, rfl⟩, .inl ⟨rfl, rfl⟩, .inr rfl, .inl ⟨nrs_map fV_nr _, rfl⟩, .inl ⟨nrs_map oV_nr _, rfl⟩, trivial⟩, rfl, rfl, rfl, rfl⟩
      · simp +contextual (maxSteps := 2000000) (disch := ((try unfold LIM at *); omega)) only [↓bcase_true, ↓bcase_false, WA, simprocAttr, wrap_i64, WB8, e2]
        exact ⟨(i - 1, fl, ol, cap, q' + 1, c1, c2), ⟨⟨I.ok, I.c, by simp only; omega, by simp only; omega, by simp only; omega, by simp only; omega, I.s, hc1, hc2⟩, by simp only; omega⟩, [0, 1, 2, 3, 4], ⟨by simp, rfl⟩, ⟨.inl ⟨rfl, rfl⟩, .inl ⟨rfl, rfl⟩, .inr rfl, .inl ⟨nrs_map fV_nr _, rfl⟩, .inl ⟨nrs_map oV_nr _, rfl⟩, trivial⟩, rfl, rfl, rfl, rfl⟩
  · have g := good_of I.ok
    have q0 := I.q0
    have q1 := I.q1
    have i0 := I.i0
    have hc1 := I.h1
    have hc2 := I.h2
    have hn := I.n
    have hfl := g.fl
    have hsz : (sizeF fl : Int) ≤ cap := (g.fit 0).2
    have hcc := I.c
    have D0 : Drawn fl ol := ⟨by omega, by omega, by omega, fun o ho => by have := I.s o ho; omega⟩
    simp +contextual (maxSteps := 2000000) (disch := ((try unfold LIM at *); omega)) only [↓bcase_true, ↓bcase_false, WA, simprocAttr, wrap_i64, WB8, dO, d]
    refine CallThen.pick hb (by omega) (by omega) (by omega) (by omega) rfl 1000 fun x3 hz0 hz1 => ?_
    by_cases e0 : x3 = 0
    · simp +contextual (maxSteps := 2000000) (disch := ((try unfold LIM at *); omega)) only [↓bcase_true, ↓bcase_false, WA, simprocAttr, wrap_i64, e0]
      refine CallThen.rdNum (l := [-1, 1, 1000001]) hb (by omega) (by omega) rfl (by omega) (by omega) (by simp) rfl rfl 1000 fun cap' hcap => ?_
      simp +contextual (maxSteps := 2000000) (disch := ((try unfold LIM at *); omega)) only [↓bcase_true, ↓bcase_false, WA, simprocAttr, wrap_i64, List.set_cons_zero, List.set_cons_succ]
      refine Up.frzN 6 [rdB b (q + 1 + 1)] rfl ⟨.inl ⟨rfl, rfl⟩, trivial⟩ ⟨fl, ol, cap', q + 1 + 1, D0, by omega, ?_, rfl⟩
      simp +contextual (maxSteps := 2000000) (disch := ((try unfold LIM at *); omega)) only [↓bcase_true, ↓bcase_false, WA, simprocAttr, wrap_i64, dV, List.length_map, own_fl, own_ol, fV_frzN, oV_frzN]
    by_cases e1 : x3 = 1
    · have r1 : (fl.length + 1) * 32 ≤ 140737488355328 := by omega
      have r2 : fl.length + 1 ≤ LIM := by unfold LIM; omega
      have hm : List.map fV fl ++ [[.s (.string ⟨#[97]⟩), .s (.string ⟨#[]⟩)]] = (fl ++ [((⟨#[97]⟩, ⟨#[]⟩) : Fl)]).map fV := by simp [fV]
      have hl1 : fl.length + 1 = (fl ++ [((⟨#[97]⟩, ⟨#[]⟩) : Fl)]).length := by simp
      have D1 : Drawn (fl ++ [((⟨#[97]⟩, ⟨#[]⟩) : Fl)]) ol := ⟨by simp; omega, D0.o, by rw [sizeF_app]; have := D0.b; show _ + (1 + 0 + 0) ≤ _; omega, D0.s⟩
      rw [hl1] at r1 r2
      simp +contextual (maxSteps := 2000000) (disch := ((try unfold LIM at *); omega)) only [↓bcase_true, ↓bcase_false, WA, simprocAttr, wrap_i64, e1, leafs_map fV_ok, List.length_map, r1, r2, takeTo, List.take_length, take_map_len, hm, hl1]
      intro cap' hcap _
      generalize fl ++ [((⟨#[97]⟩, ⟨#[]⟩) : Fl)] = f2 at *
      refine Up.frzN 6 [rdB b (q + 1)] rfl ⟨.inl ⟨rfl, rfl⟩, trivial⟩ ⟨f2, ol, cap, q + 1, D1, by omega, ?_, rfl⟩
      simp +contextual (maxSteps := 2000000) (disch := ((try unfold LIM at *); omega)) only [↓bcase_true, ↓bcase_false, WA, simprocAttr, wrap_i64, dV, List.length_map, own_fl, own_ol, fV_frzN, oV_frzN]
    by_cases e2 : x3 = 2
    · have hz := hz0
      have r1 : (ol.length + 1) * 40 ≤ 140737488355328 := by omega
      have r2 : ol.length + 1 ≤ LIM := by unfold LIM; omega
      have fin : ∀ (o : Opn) (cap' q' : Int) (cp b1 b2 : Nat) (h : Go.W.H), oneO o ≤ 10000 → p ≤ q' → q' ≤ p + 1000 → h[0]? = some (rdB b q') → 1 ≤ b1 → 1 ≤ b2 → h[b1]? = some ⟨fl.map fV, 2, c1, true⟩ → h[b2]? = some ⟨(ol ++ [o]).map oV, 3, cp, true⟩ → 
          Up 1 (fun res h' => ∃ fl ol cap q, Drawn fl ol ∧ (p ≤ q ∧ q ≤ p + 1000) ∧ res = .ret (.agg (dV fl ol cap)) ∧ h' = [rdB b q]) (.ret (.agg [.sl b1 0 fl.length c1, .sl b2 0 (ol ++ [o]).length cp, .s (.int .i64 cap')])) h := by
        intro o cap' q' cp b1 b2 h ho k1 k2 k3 k4 k5 k6 k7
        have hlen : 1 ≤ h.length := (List.getElem?_eq_some_iff.1 k3).1
        refine Up.frzN 6 [rdB b q'] rfl ⟨.inl ⟨rfl, ?_⟩, trivial⟩ ⟨fl, ol ++ [o], cap', q', ⟨D0.f, by simp; omega, D0.b, fun x hx => ?_⟩, ⟨k1, k2⟩, ?_, rfl⟩
        · clear k6 k7
          cases h with
          | nil => simp at k3
          | cons x t => simpa [killFrom] using k3
        · rcases List.mem_append.1 hx with hx | hx
          · exact D0.s x hx
          · simp at hx; subst hx; exact ho
        · have n1 : ¬ b1 < 1 := by omega
          have n2 : ¬ b2 < 1 := by omega
          generalize ol ++ [o] = o2 at *
          simp +contextual (maxSteps := 2000000) (disch := ((try unfold LIM at *); omega)) only [↓bcase_true, ↓bcase_false, WA, simprocAttr, wrap_i64, dV, k6, k7, n1, n2, List.length_map, own_fl, own_ol, fV_frzN, oV_frzN]
      simp +contextual (maxSteps := 2000000) (disch := ((try unfold LIM at *); omega)) only [↓bcase_true, ↓bcase_false, WA, simprocAttr, wrap_i64, e2]
      refine DrawThen.of 1000 [0, 2, 4] (.old 0 (.old 2 (.or 1 (.go 3 (.go 4 (.new 5 (.go 6 (.go 7 (.old 8 (.go 9 .done))))))) (.go 3 (.or 1 (.go 4 (.new 5 (.go 6 (.go 7 (.old 8 (.go 9 .done)))))) (.go 4 (.new 5 (.or 1 (.go 6 (.go 7 (.old 8 (.go 9 .done)))) (.go 6 (.go 1 (.go 7 (.old 8 (.go 9 .done))))))))))))) (panFree_body _ _) (by kernel_rfl) (by kernel_rfl) (by kernel_rfl) ?_
      simp +contextual (maxSteps := 2000000) (disch := ((try unfold LIM at *); omega)) only [↓bcase_true, ↓bcase_false, WA, simprocAttr, wrap_i64, leafs_map oV_ok, List.length_map, r1, r2, takeTo, List.take_length, take_map_len]
      refine ⟨?_, ?_⟩
      · refine DCall.rdNum (l := [0, 5]) hb (by omega) (by omega) rfl (by omega) (by omega) (by simp) rfl rfl 1000 (.new 5 (.go 6 (.go 7 (.old 8 (.go 9 .done))))) (by kernel_rfl) fun kd hkd => ?_
        simp +contextual (maxSteps := 2000000) (disch := ((try unfold LIM at *); omega)) only [↓bcase_true, ↓bcase_false, WA, simprocAttr, wrap_i64, leafs_map oV_ok, List.length_map, r1, r2, takeTo, List.take_length, take_map_len]
        repeat' apply And.intro
        all_goals
          intro cap' hcap _
          have hl1 : ol.length + 1 = (ol ++ [((kd, ⟨#[]⟩, ⟨#[]⟩) : Opn)]).length := by simp
          have hm : List.map oV ol ++ [[.s (.int .i64 kd), .s (.string ⟨#[]⟩), .s (.string ⟨#[]⟩)]] = (ol ++ [((kd, ⟨#[]⟩, ⟨#[]⟩) : Opn)]).map oV := by simp [oV]
          simp only [hl1, hm]
          refine fin (kd, ⟨#[]⟩, ⟨#[]⟩) cap (q + 1 + 1) cap' 3 7 _ (by show 0 + 0 ≤ _; omega) (by omega) (by omega) rfl (by omega) (by omega) rfl rfl
      · refine ⟨?_, ?_⟩
        · refine DCall.rdNum (l := [0, 5]) hb (by omega) (by omega) rfl (by omega) (by omega) (by simp) rfl rfl 1000 (.new 5 (.go 6 (.go 7 (.old 8 (.go 9 .done))))) (by kernel_rfl) fun kd hkd => ?_
          simp +contextual (maxSteps := 2000000) (disch := ((try unfold LIM at *); omega)) only [↓bcase_true, ↓bcase_false, WA, simprocAttr, wrap_i64, leafs_map oV_ok, List.length_map, r1, r2, takeTo, List.take_length, take_map_len]
          repeat' apply And.intro
          all_goals
            intro cap' hcap _
            have hl1 : ol.length + 1 = (ol ++ [((kd, ⟨#[]⟩, ⟨#[]⟩) : Opn)]).length := by simp
            have hm : List.map oV ol ++ [[.s (.int .i64 kd), .s (.string ⟨#[]⟩), .s (.string ⟨#[]⟩)]] = (ol ++ [((kd, ⟨#[]⟩, ⟨#[]⟩) : Opn)]).map oV := by simp [oV]
            simp only [hl1, hm]
            refine fin (kd, ⟨#[]⟩, ⟨#[]⟩) cap (q + 1 + 1) cap' 3 7 _ (by show 0 + 0 ≤ _; omega) (by omega) (by omega) rfl (by omega) (by omega) rfl rfl
        · refine DCall.rdNum (l := [0, 5]) hb (by omega) (by omega) rfl (by omega) (by omega) (by simp) rfl rfl 1000 (.new 5 (.or 1 (.go 6 (.go 7 (.old 8 (.go 9 .done)))) (.go 6 (.go 1 (.go 7 (.old 8 (.go 9 .done))))))) (by kernel_rfl) fun kd hkd => ?_
          simp +contextual (maxSteps := 2000000) (disch := ((try unfold LIM at *); omega)) only [↓bcase_true, ↓bcase_false, WA, simprocAttr, wrap_i64, leafs_map oV_ok, List.length_map, r1, r2, takeTo, List.take_length, take_map_len]
          repeat' apply And.intro
          all_goals
            intro cap' hcap _
            have hl1 : ol.length + 1 = (ol ++ [((kd, ⟨#[]⟩, ⟨#[]⟩) : Opn)]).length := by simp
            have hm : List.map oV ol ++ [[.s (.int .i64 kd), .s (.string ⟨#[]⟩), .s (.string ⟨#[]⟩)]] = (ol ++ [((kd, ⟨#[]⟩, ⟨#[]⟩) : Opn)]).map oV := by simp [oV]
            simp only [hl1, hm]
            refine fin (kd, ⟨#[]⟩, ⟨#[]⟩) cap (q + 1 + 1) cap' 3 7 _ (by show 0 + 0 ≤ _; omega) (by omega) (by omega) rfl (by omega) (by omega) rfl rfl
    by_cases e3 : x3 = 3
    · have hz := hz0
      have r1 : (ol.length + 1) * 40 ≤ 140737488355328 := by omega
      have r2 : ol.length + 1 ≤ LIM := by unfold LIM; omega
      have fin : ∀ (o : Opn) (cap' q' : Int) (cp b1 b2 : Nat) (h : Go.W.H), oneO o ≤ 10000 → p ≤ q' → q' ≤ p + 1000 → h[0]? = some (rdB b q') → 1 ≤ b1 → 1 ≤ b2 → h[b1]? = some ⟨fl.map fV, 2, c1, true⟩ → h[b2]? = some ⟨(ol ++ [o]).map oV, 3, cp, true⟩ → 
          Up 1 (fun res h' => ∃ fl ol cap q, Drawn fl ol ∧ (p ≤ q ∧ q ≤ p + 1000) ∧ res = .ret (.agg (dV fl ol cap)) ∧ h' = [rdB b q]) (.ret (.agg [.sl b1 0 fl.length c1, .sl b2 0 (ol ++ [o]).length cp, .s (.int .i64 cap')])) h := by
        intro o cap' q' cp b1 b2 h ho k1 k2 k3 k4 k5 k6 k7
        have hlen : 1 ≤ h.length := (List.getElem?_eq_some_iff.1 k3).1
        refine Up.frzN 6 [rdB b q'] rfl ⟨.inl ⟨rfl, ?_⟩, trivial⟩ ⟨fl, ol ++ [o], cap', q', ⟨D0.f, by simp; omega, D0.b, fun x hx => ?_⟩, ⟨k1, k2⟩, ?_, rfl⟩
        · clear k6 k7
          cases h with
          | nil => simp at k3
          | cons x t => simpa [killFrom] using k3
        · rcases List.mem_append.1 hx with hx | hx
          · exact D0.s x hx
          · simp at hx; subst hx; exact ho
        · have n1 : ¬ b1 < 1 := by omega
          have n2 : ¬ b2 < 1 := by omega
          generalize ol ++ [o] = o2 at *
          simp +contextual (maxSteps := 2000000) (disch := ((try unfold LIM at *); omega)) only [↓bcase_true, ↓bcase_false, WA, simprocAttr, wrap_i64, dV, k6, k7, n1, n2, List.length_map, own_fl, own_ol, fV_frzN, oV_frzN]
      simp +contextual (maxSteps := 2000000) (disch := ((try unfold LIM at *); omega)) only [↓bcase_true, ↓bcase_false, WA, simprocAttr, wrap_i64, e3]
      refine DrawThen.of 1000 [2, 4] (.old 0 (.or 1 (.go 2 (.new 3 (.go 4 (.go 5 (.old 6 (.go 7 .done)))))) (.go 2 (.new 3 (.or 1 (.go 4 (.go 5 (.old 6 (.go 7 .done)))) (.go 4 (.go 1 (.go 5 (.old 6 (.go 7 .done)))))))))) (panFree_body _ _) (by kernel_rfl) (by kernel_rfl) (by kernel_rfl) ?_
      simp +contextual (maxSteps := 2000000) (disch := ((try unfold LIM at *); omega)) only [↓bcase_true, ↓bcase_false, WA, simprocAttr, wrap_i64, leafs_map oV_ok, List.length_map, r1, r2, takeTo, List.take_length, take_map_len]
      refine ⟨?_, ?_⟩
      · refine DCall.many _ 2000 (by omega) (by decide) 1000 (.new 3 (.go 4 (.go 5 (.old 6 (.go 7 .done))))) (by kernel_rfl) fun t ht => ?_
        simp +contextual (maxSteps := 2000000) (disch := ((try unfold LIM at *); omega)) only [↓bcase_true, ↓bcase_false, WA, simprocAttr, wrap_i64, leafs_map oV_ok, List.length_map, r1, r2, takeTo, List.take_length, take_map_len]
        repeat' apply And.intro
        all_goals
          intro cap' hcap _
          have hl1 : ol.length + 1 = (ol ++ [((1, ⟨#[122]⟩, t) : Opn)]).length := by simp
          have hm : List.map oV ol ++ [[.s (.int .i64 1), .s (.string ⟨#[122]⟩), .s (.string t)]] = (ol ++ [((1, ⟨#[122]⟩, t) : Opn)]).map oV := by simp [oV]
          have ht' : t.size = 2000 := ht
          simp only [hl1, hm]
          refine fin (1, ⟨#[122]⟩, t) cap (q + 1) cap' 3 6 _ (by show 1 + t.size ≤ _; omega) (by omega) (by omega) rfl (by omega) (by omega) rfl rfl
      · refine DCall.many _ 2000 (by omega) (by decide) 1000 (.new 3 (.or 1 (.go 4 (.go 5 (.old 6 (.go 7 .done)))) (.go 4 (.go 1 (.go 5 (.old 6 (.go 7 .done))))))) (by kernel_rfl) fun t ht => ?_
        simp +contextual (maxSteps := 2000000) (disch := ((try unfold LIM at *); omega)) only [↓bcase_true, ↓bcase_false, WA, simprocAttr, wrap_i64, leafs_map oV_ok, List.length_map, r1, r2, takeTo, List.take_length, take_map_len]
        repeat' apply And.intro
        all_goals
          intro cap' hcap _
          have hl1 : ol.length + 1 = (ol ++ [((1, ⟨#[122]⟩, t) : Opn)]).length := by simp
          have hm : List.map oV ol ++ [[.s (.int .i64 1), .s (.string ⟨#[122]⟩), .s (.string t)]] = (ol ++ [((1, ⟨#[122]⟩, t) : Opn)]).map oV := by simp [oV]
          have ht' : t.size = 2000 := ht
          simp only [hl1, hm]
          refine fin (1, ⟨#[122]⟩, t) cap (q + 1) cap' 3 6 _ (by show 1 + t.size ≤ _; omega) (by omega) (by omega) rfl (by omega) (by omega) rfl rfl
    · simp +contextual (maxSteps := 2000000) (disch := ((try unfold LIM at *); omega)) only [↓bcase_true, ↓bcase_false, WA, simprocAttr, wrap_i64, e0, e1, e2, e3]
      refine Up.frzN 6 [rdB b (q + 1)] rfl ⟨.inl ⟨rfl, rfl⟩, trivial⟩ ⟨fl, ol, cap, q + 1, D0, by omega, ?_, rfl⟩
      simp +contextual (maxSteps := 2000000) (disch := ((try unfold LIM at *); omega)) only [↓bcase_true, ↓bcase_false, WA, simprocAttr, wrap_i64, dV, List.length_map, own_fl, own_ol, fV_frzN, oV_frzN]
end Go.Proofs.Ytpcgnmoogjahbaa
/- part D39 -/
set_option linter.unusedVariables false
set_option linter.unusedSimpArgs false
set_option maxRecDepth 100000
namespace Go.Proofs.Ytpcgnmoogjahbaa
open Go Go.W Go.RowKit
theorem disk_at {b : List UInt8} {p : Int} (hb : b.length ≤ 2000) (h0 : 0 ≤ p) (h1 : p ≤ 100000) {i : Nat} (H : Go.W.H) (hi : H[i]? = some (rdB b p)) :
    CallsV C 82 [.ptr i 0 0] H fun res h' => ∃ fl ol cap q, Drawn fl ol ∧ (p ≤ q ∧ q ≤ p + 1000) ∧ res = .ret (.agg (dV fl ol cap)) ∧ h' = H.set i (rdB b q) := by
  have := CallsV.frame (walk82 b p hb h0 h1) [i] H rfl (by simp) (fun j B e => by
    match j, e with
    | 0, e => simp at e; subst e; exact ⟨i, rfl, hi⟩
    | j + 1, e => simp at e)
  refine this.mono fun res h' ⟨r, h1, ⟨fl, ol, cap, q, q0, q0', q1, q2⟩, q3, q4⟩ => ⟨fl, ol, cap, q, q0, q0', ?_, ?_⟩
  · rw [q3, q1]; rfl
  · rw [q4, q2]
    show setAll H [i] [rnB _ (rdB b q)] = _
    rw [nrs_rn _ (B := rdB b q) rfl, setAll_cons, setAll_nil, List.append_nil]
theorem DCall.rdDisk {N n0 : Nat} {Q : QT} {k : List It} {τ : Tau} {h : Go.W.H} {h0' : Go.W.H} {exc : List Nat} {ops : Array Oper} {fuel : Nat} {listed : Array Bool} {d : Option Nat} {nw : List Nat} {b : List UInt8} {p : Int} {i : Nat} (hb : b.length ≤ 2000) (h0 : 0 ≤ p) (h1 : p ≤ 100000) (hi : (hide h0' exc h)[i]? = some (rdB b p)) (m : Nat) (td : TD) (hd : drawOk ops [] listed td = true)
    (hr : ∀ fl ol cap q, Drawn fl ol → p ≤ q → q ≤ p + 1000 → RunD C N n0 m Q k h0' exc ops fuel listed td (addN d nw) (upo d (.agg (dV fl ol cap)) τ) (show_ h0' exc h ((hide h0' exc h).set i (rdB b q)))) : DCall C N n0 Q h0' exc ops fuel listed k 82 [.ptr i 0 0] d nw τ h :=
  DCall.of m td hd (disk_at hb h0 h1 _ hi) fun res h' ⟨fl, ol, cap, q, e0, e1, e2, e3⟩ => by subst e2; subst e3; exact hr fl ol cap q e0 e1.1 e1.2
theorem CallThen.open_ {N n0 : Nat} {Q : QT} {k : List It} {τ : Tau} {h : Go.W.H} {d : Option Nat} (b : List UInt8) (hb : b.length ≤ 1048576) (m : Nat)
    (hr : ∀ b' : List UInt8, b'.length ≤ 2000 → Run C N n0 m Q k (upo d (.ptr h.length 0 0) τ) (h ++ [rdB b' 0])) : CallThen C N n0 Q 80 [.f 1 (b.map bV)] d k τ h := by
  refine CallThen.of m (CallsV.frame (walk80 b hb) [] h rfl (by simp) (fun i B e => by simp at e)) fun res h' ⟨r, h1, ⟨b', q0, q1, q2⟩, q3, q4⟩ => ?_
  subst q1; subst q2; subst q3; subst q4
  exact hr b' q0
theorem walk35 (b : List UInt8) (hb : b.length ≤ 1048576) : CallsV C 35 [.f 1 (b.map bV)] [] fun res h' => ∃ fl ol cap o, (Drawn fl ol ∧ oneO o ≤ 100) ∧ res = .ret (.tup [.agg (dV fl ol cap), .agg (oV o)]) ∧ h' = [] := by
  refine calls_of_run Try.func35 rfl (by kernel_rfl) (by kernel_rfl) (by simp) 1000 ?_
  simp +contextual (maxSteps := 2000000) (disch := ((try unfold LIM at *); omega)) only [↓bcase_true, ↓bcase_false, WA, simprocAttr, wrap_i64]
  refine CallThen.open_ b hb 1000 fun b' hb' => ?_
  simp +contextual (maxSteps := 2000000) (disch := ((try unfold LIM at *); omega)) only [↓bcase_true, ↓bcase_false, WA, simprocAttr, wrap_i64]
  refine CallThen.rdOp hb' (by omega) (by omega) rfl 1000 fun o q ho q0 q1 => ?_
  simp +contextual (maxSteps := 2000000) (disch := ((try unfold LIM at *); omega)) only [↓bcase_true, ↓bcase_false, WA, simprocAttr, wrap_i64, oV]
  refine DrawThen.of 1000 [0, 1, 2] (.old 0 (.old 2 (.go 1 (.go 3 (.go 4 .done))))) (panFree_body _ _) (by kernel_rfl) (by kernel_rfl) (by kernel_rfl) ?_
  simp +contextual (maxSteps := 2000000) (disch := ((try unfold LIM at *); omega)) only [↓bcase_true, ↓bcase_false, WA, simprocAttr, wrap_i64, oV, dV]
  refine DCall.rdDisk hb' (by omega) (by omega) rfl 1000 (.go 3 (.go 4 .done)) (by kernel_rfl) fun fl ol cap q' hd k0 k1 => ?_
  simp +contextual (maxSteps := 2000000) (disch := ((try unfold LIM at *); omega)) only [↓bcase_true, ↓bcase_false, WA, simprocAttr, wrap_i64, oV, dV]
  repeat' apply And.intro
  all_goals
    exact Up.pure (C := C) 6 ⟨fl, ol, cap, o, ⟨hd, ho⟩, rfl, rfl⟩
end Go.Proofs.Ytpcgnmoogjahbaa
/- part W41 -/
set_option linter.unusedVariables false
set_option linter.unusedSimpArgs false
namespace Go.W
open Go Go.RowKit

/-! ### What is answered may be frozen, or told with less, behind a contract -/
section
variable {C : Cx}
theorem CallsV.up {f : Nat} {args : List V} {h : H} {R R' : Res → H → Prop} (p : CallsV C f args h R) (u : ∀ r h', R r h' → Up h.length R' r h') : CallsV C f args h R' := by
  intro S w0 φ vs w r0 r1 r2
  refine (p S w0 φ vs w r0 r1 r2).mono fun e w' ⟨r, φ', h', p1, p2, p3, p4, p5⟩ => ?_
  have := u r h' p5
  cases r with
  | ret v =>
    obtain ⟨v', h2, M, ar, hm, hR⟩ := this
    obtain ⟨φ'', R'', e'', hn'', m''⟩ := ar S w0 φ' w' p2 p4
    obtain ⟨cv, e1, rv⟩ := p1
    exact ⟨.ret v', φ'', h2, ⟨cv, e1, m'' _ _ _ hm rv⟩, R'', p3.trans e'', hn'', hR⟩
  | pan v =>
    obtain ⟨v', h2, M, ar, hm, hR⟩ := this
    obtain ⟨φ'', R'', e'', hn'', m''⟩ := ar S w0 φ' w' p2 p4
    obtain ⟨cv, e1, rv⟩ := p1
    exact ⟨.pan v', φ'', h2, ⟨cv, e1, m'' _ _ _ hm rv⟩, R'', p3.trans e'', hn'', hR⟩
theorem PureV.of_new {f : Nat} {args : List V} {r : V} {R : Res → H → Prop} (ha : ∀ ρ, args.map (rnV ρ) = args) (hr : ∀ ρ, rnV ρ r = r) (d : Nat) (p : CallsV C f args [] R) (h : ∀ res h', R res h' → ∃ v, res = .ret v ∧ frz 0 d h' v = r) : PureV C f args r :=
  ⟨hr, ha, p.up fun res h' q => by
    obtain ⟨v, rfl, e⟩ := h res h' q
    exact Up.pure (C := C) d ⟨by rw [e], rfl⟩⟩
end
end Go.W
/- part D40 -/
set_option linter.unusedVariables false
set_option linter.unusedSimpArgs false
set_option maxRecDepth 100000
namespace Go.Proofs.Ytpcgnmoogjahbaa
open Go Go.W Go.RowKit
theorem pure36 (fl : List Fl) (ol : List Opn) (cap : Int) (o : Opn) (S : Sized fl ol 1048576) (ho : oneO o ≤ 1048576) : PureV C 36 [.agg (dV fl ol cap), .agg (oV o)] (.tup [.agg (dV (opF fl ol cap) (opO fl ol cap o) (fallC fl ol cap)), .s (.bool (opB fl ol cap o))]) := by
  refine PureV.of_new (fun _ => rfl) (fun _ => rfl) 6 (impl36 fl ol cap o S ho) ?_
  rintro res h' ⟨c1, c2, hc1, hc2, rfl, rfl⟩
  refine ⟨_, rfl, ?_⟩
  generalize opF fl ol cap = f2 at *
  generalize opO fl ol cap o = o2 at *
  simp +contextual (maxSteps := 2000000) (disch := ((try unfold LIM at *); omega)) only [↓bcase_true, ↓bcase_false, WA, simprocAttr, wrap_i64, dO, dH, dV, List.length_map, own_fl, own_ol, fV_frz, oV_frz, Nat.not_lt_zero]
theorem pure39 (fl : List Fl) (ol : List Opn) (cap : Int) (S : Sized fl ol 1048576) : PureV C 39 [.agg (dV fl ol cap)] (.f 2 ((seeD fl ol cap).map fV)) := by
  refine PureV.of_new (fun _ => rfl) (fun _ => rfl) 6 (new39 fl ol cap S) ?_
  rintro res h' ⟨c1, hc1, rfl, rfl⟩
  refine ⟨_, rfl, ?_⟩
  generalize seeD fl ol cap = f2 at *
  simp +contextual (maxSteps := 2000000) (disch := ((try unfold LIM at *); omega)) only [↓bcase_true, ↓bcase_false, WA, simprocAttr, wrap_i64, List.length_map, own_fl, fV_frz, Nat.not_lt_zero]
theorem pure47 (fl : List Fl) (ol : List Opn) (cap keep : Int) (S : Sized fl ol 1048576) : PureV C 47 [.agg (dV fl ol cap), .s (.int .i64 keep)] (.agg (dV (fallF fl ol cap keep) [] (fallC fl ol cap))) := by
  refine PureV.of_new (fun _ => rfl) (fun _ => rfl) 6 (new47 fl ol cap keep S) ?_
  rintro res h' ⟨c1, c2, hc1, hc2, rfl, rfl⟩
  refine ⟨_, rfl, ?_⟩
  generalize fallF fl ol cap keep = f2 at *
  obtain ⟨o2, ho2⟩ : ∃ o2 : List Opn, o2 = [] := ⟨_, rfl⟩
  rw [← ho2] at *
  simp +contextual (maxSteps := 2000000) (disch := ((try unfold LIM at *); omega)) only [↓bcase_true, ↓bcase_false, WA, simprocAttr, wrap_i64, dO, dH, dV, List.length_map, own_fl, own_ol, fV_frz, oV_frz, Nat.not_lt_zero]
theorem pure48 (fl : List Fl) (ol : List Opn) (cap : Int) (S : Sized fl ol 1048576) : PureV C 48 [.agg (dV fl ol cap)] (.agg (dV (seeD fl ol cap) [] (fallC fl ol cap))) := by
  refine PureV.of_new (fun _ => rfl) (fun _ => rfl) 6 (new48 fl ol cap S) ?_
  rintro res h' ⟨c1, c2, hc1, hc2, rfl, rfl⟩
  refine ⟨_, rfl, ?_⟩
  generalize seeD fl ol cap = f2 at *
  obtain ⟨o2, ho2⟩ : ∃ o2 : List Opn, o2 = [] := ⟨_, rfl⟩
  rw [← ho2] at *
  simp +contextual (maxSteps := 2000000) (disch := ((try unfold LIM at *); omega)) only [↓bcase_true, ↓bcase_false, WA, simprocAttr, wrap_i64, dO, dH, dV, List.length_map, own_fl, own_ol, fV_frz, oV_frz, Nat.not_lt_zero]
theorem eq_of_take {α : Type} : ∀ {l m : List α}, l.length = m.length → (∀ (i : Nat) a b, l[i]? = some a → m[i]? = some b → a = b) → l = m := fun {l m} h e => by
  refine List.ext_getElem? fun i => ?_
  by_cases q : i < l.length
  · have hq : i < m.length := by omega
    rw [List.getElem?_eq_getElem q, List.getElem?_eq_getElem hq]
    exact congrArg some (e i _ _ (List.getElem?_eq_getElem q) (List.getElem?_eq_getElem hq))
  · rw [List.getElem?_eq_none (by omega), List.getElem?_eq_none (by omega)]
theorem walk38 (l m : List Fl) : PureV C 38 [.f 2 (l.map fV), .f 2 (m.map fV)] (.s (.bool (decide (l = m)))) := by
  refine pure_of_run Try.func38 rfl (by kernel_rfl) (by kernel_rfl) (by simp) (fun _ => rfl) (fun _ => rfl) 6 1000 ?_
  by_cases c : (l.length : Int) = m.length
  rotate_left
  · have hne : ¬ l = m := fun e => c (by rw [e])
    simp +contextual (maxSteps := 2000000) (disch := ((try unfold LIM at *); omega)) only [↓bcase_true, ↓bcase_false, WA, simprocAttr, wrap_i64, List.length_map, c, hne]
    try intros
    try rfl
  have hlen : l.length = m.length := by omega
  simp +contextual (maxSteps := 2000000) (disch := ((try unfold LIM at *); omega)) only [↓bcase_true, ↓bcase_false, WA, simprocAttr, wrap_i64, List.length_map, c]
  try intro _ _
  refine LoopThen.pure (ι := Nat) (fun i => i ≤ m.length ∧ l.take i = m.take i) (fun i => keepL [(0, .f 2 (l.map fV)), (1, .f 2 (m.map fV)), (5, .s (.int .i64 i))]) (fun i => m.length - i) 6 [0, 1, 5] 1000 1000 ⟨0, ⟨Nat.zero_le _, rfl⟩, by simp +contextual (maxSteps := 2000000) (disch := ((try unfold LIM at *); omega)) only [↓bcase_true, ↓bcase_false, WA, simprocAttr, wrap_i64]⟩ ?_
  rintro i ⟨p1, p2⟩
  by_cases d : (i : Int) < m.length
  · obtain ⟨g, hg⟩ := get_lt d
    obtain ⟨f, hf⟩ := get_lt (l := l) (i := i) (by omega)
    have pi : (0 : Int) ≤ i := by omega
    simp +contextual (maxSteps := 2000000) (disch := ((try unfold LIM at *); omega)) only [↓bcase_true, ↓bcase_false, WA, simprocAttr, wrap_i64, List.length_map, c, d, pi, hf, hg, fV]
    try intro _
    refine DrawThen.of 1000 [] (.old 0 (.old 1 (.old 2 (.old 3 (.old 4 (.old 5 (.old 6 (.old 7 (.old 8 .done))))))))) (panFree_loopP (panFree_pure _ _ _)) (by kernel_rfl) (by kernel_rfl) (by kernel_rfl) ?_
    simp +contextual (maxSteps := 2000000) (disch := ((try unfold LIM at *); omega)) only [↓bcase_true, ↓bcase_false, WA, simprocAttr, wrap_i64, List.length_map, c, d, pi, hf, hg, fV]
    refine ⟨⟨by kernel_rfl, by kernel_rfl, by kernel_rfl⟩, ?_⟩
    by_cases e : f = g
    · subst e
      simp +contextual (maxSteps := 2000000) (disch := ((try unfold LIM at *); omega)) only [↓bcase_true, ↓bcase_false, WA, simprocAttr, wrap_i64, decide_true, Bool.and_self, cast_succ]
      exact ⟨i + 1, ⟨⟨by omega, by rw [List.take_add_one, List.take_add_one, p2, hf, hg]⟩, by omega⟩, rfl⟩
    · have e1 : (decide (f.1 = g.1) && decide (f.2 = g.2)) = false := by
        cases h : (decide (f.1 = g.1) && decide (f.2 = g.2)) with
        | false => rfl
        | true => simp only [Bool.and_eq_true, decide_eq_true_eq] at h; exact absurd (Prod.ext h.1 h.2) e
      have hne : ¬ l = m := fun x => by subst x; rw [hf] at hg; exact e (Option.some.inj hg)
      simp +contextual (maxSteps := 2000000) (disch := ((try unfold LIM at *); omega)) only [↓bcase_true, ↓bcase_false, WA, simprocAttr, wrap_i64, e1, hne]
  · simp +contextual (maxSteps := 2000000) (disch := ((try unfold LIM at *); omega)) only [↓bcase_true, ↓bcase_false, WA, simprocAttr, wrap_i64, List.length_map, c, d]
    intro _
    have e : i = m.length := by omega
    subst e
    have : l = m := by rw [List.take_length, List.take_of_length_le (by omega)] at p2; exact p2
    rw [decide_eq_true this]
theorem see_foldl (fl : List Fl) (ol : List Opn) : seeS fl ol ol.length = ol.foldl doS fl := by unfold seeS; rw [List.take_length]
theorem seeD_ok {fl : List Fl} {ol : List Opn} {cap : Int} (h : diskOk fl ol cap = true) : seeD fl ol cap = ol.foldl doS fl := by unfold seeD; rw [if_pos h, see_foldl]
theorem see_app {fl : List Fl} {ol : List Opn} {cap : Int} {o : Opn} (h : diskOk fl (ol ++ [o]) cap = true) : seeD fl (ol ++ [o]) cap = doS (ol.foldl doS fl) o := by rw [seeD_ok h, List.foldl_append]; rfl
/-! ### What is put is found -/
theorem tw_all (l : List Fl) (n : ByteArray) : ∀ f ∈ l.takeWhile (fun f : Fl => ltB f.1 n), ltB f.1 n = true := fun f hf => by
  have := List.all_takeWhile (p := fun f : Fl => ltB f.1 n) (l := l)
  exact List.all_eq_true.1 this f hf
theorem lt_irr (n : ByteArray) : ltB n n = false := by
  cases h : ltB n n with
  | false => rfl
  | true => exact absurd rfl (ltB_ne h)
theorem put_split (a r : List Fl) (n d d2 : ByteArray) (ha : ∀ f ∈ a, ltB f.1 n = true) : putS (a ++ (n, d) :: r) n d2 = a ++ (n, d2) :: r := by
  have e1 : (a ++ (n, d) :: r).takeWhile (fun f : Fl => ltB f.1 n) = a := by
    rw [List.takeWhile_append_of_pos ha, List.takeWhile_cons_of_neg (by simp [lt_irr])]; simp
  have e2 : (a ++ (n, d) :: r).dropWhile (fun f : Fl => ltB f.1 n) = (n, d) :: r := by
    rw [List.dropWhile_append_of_pos ha, List.dropWhile_cons_of_neg (by simp [lt_irr])]
  unfold putS
  rw [e1, e2]; simp
theorem put_form (l : List Fl) (n d : ByteArray) : ∃ a r, (∀ f ∈ a, ltB f.1 n = true) ∧ ∀ d, putS l n d = a ++ (n, d) :: r := ⟨_, _, tw_all l n, fun _ => rfl⟩
theorem put_put2 (l : List Fl) (n d d2 : ByteArray) : putS (putS l n d) n d2 = putS l n d2 := by
  obtain ⟨a, r, ha, hp⟩ := put_form l n d
  rw [hp d, hp d2, put_split a r n d d2 ha]
theorem get_put (l : List Fl) (n d : ByteArray) : getS (putS l n d) n = (d, true) := by
  obtain ⟨a, r, ha, hp⟩ := put_form l n d
  rw [hp d, get_of (a ++ (n, d) :: r) n a _ (fun f hf => ltB_ne (ha f hf)), getS, if_pos rfl]
theorem get_skip {n : ByteArray} {x : Fl} (hx : x.1 ≠ n) : ∀ (a r : List Fl), getS (a ++ x :: r) n = getS (a ++ r) n
  | [], r => by rw [List.nil_append, List.nil_append, getS, if_neg hx]
  | f :: a, r => by
    rw [List.cons_append, List.cons_append, getS, getS, get_skip hx a r]
theorem get_put_ne (l : List Fl) {m n : ByteArray} (d : ByteArray) (h : m ≠ n) : getS (putS l m d) n = getS l n := by
  have hl := List.takeWhile_append_dropWhile (p := fun f : Fl => ltB f.1 m) (l := l)
  unfold putS
  rw [get_skip h]
  conv => rhs; rw [← hl]
  cases hd : l.dropWhile (fun f : Fl => ltB f.1 m) with
  | nil => rfl
  | cons f r =>
    simp only
    split
    · rename_i e
      rw [get_skip (by rw [e]; exact h)]
    · rfl
theorem get_drop (l : List Fl) (n : ByteArray) : getS (dropS l n) n = (⟨#[]⟩, false) := get_none _ _ fun f hf => by
  unfold dropS at hf
  have := (List.mem_filter.1 hf).2
  simpa using this
theorem get_drop_ne : ∀ (l : List Fl) {m n : ByteArray}, m ≠ n → getS (dropS l m) n = getS l n
  | [], m, n, _ => rfl
  | f :: l, m, n, h => by
    have ih := get_drop_ne l h
    unfold dropS at *
    by_cases e : f.1 = m
    · rw [List.filter_cons_of_neg (by simp [e]), ih, getS, if_neg (by rw [e]; exact h)]
    · rw [List.filter_cons_of_pos (by simp [e]), getS, getS, ih]
/-- Adding twice is adding at once. -/
theorem add_add (l : List Fl) (n s t : ByteArray) : doS (doS l (2, n, s)) (2, n, t) = doS l (2, n, s ++ t) := by
  simp only [doS, show ¬ (2 : Int) = 1 by decide, if_false, if_true]
  rw [get_put, put_put2, ByteArray.append_assoc]
end Go.Proofs.Ytpcgnmoogjahbaa
/- part D41 -/
set_option linter.unusedVariables false
set_option linter.unusedSimpArgs false
set_option maxRecDepth 100000
namespace Go.Proofs.Ytpcgnmoogjahbaa
open Go Go.W Go.RowKit
theorem CallThen.draw {N n0 : Nat} {Q : QT} {k : List It} {τ : Tau} {h : Go.W.H} {d : Option Nat} (b : List UInt8) (hb : b.length ≤ 1048576) (m : Nat)
    (hr : ∀ fl ol cap o, Drawn fl ol → oneO o ≤ 100 → Run C N n0 m Q k (upo d (.tup [.agg (dV fl ol cap), .agg (oV o)]) τ) h) : CallThen C N n0 Q 35 [.f 1 (b.map bV)] d k τ h := by
  refine CallThen.of m (CallsV.frame (walk35 b hb) [] h rfl (by simp) (fun i B e => by simp at e)) fun res h' ⟨r, h1, ⟨fl, ol, cap, o, ⟨q0, q0'⟩, q1, q2⟩, q3, q4⟩ => ?_
  subst q1; subst q2; subst q3; subst q4
  have e : setAll h [] (List.map (rnB (emb [] h.length)) []) = h := by rw [List.map_nil, setAll_nil, List.append_nil]
  rw [e]; exact hr fl ol cap o q0 q0'
/-- What stands of an ok disk behind an operation. -/
theorem op_ok {fl : List Fl} {ol : List Opn} {cap : Int} (h : diskOk fl ol cap = true) (o : Opn) : opF fl ol cap = fl ∧ opO fl ol cap o = doOl fl ol cap o ∧ fallC fl ol cap = cap ∧ opB fl ol cap o = goB fl ol cap o ∧ diskOk fl (doOl fl ol cap o) cap = true := by
  refine ⟨by simp [opF, h], by simp [opO, h], by simp [fallC, h], by simp [opB, h], ?_⟩
  unfold doOl; split
  · rename_i hb; exact do_ok h hb
  · exact h
theorem pieces {fl : List Fl} {ol : List Opn} {cap : Int} {n s t : ByteArray} (h : diskOk fl ol cap = true) (hl : ol.length ≤ 100) (hx : goB fl ol cap (2, n, s) = true) (hy : goB fl (ol ++ [(2, n, s)]) cap (2, n, t) = true) :
    goB fl ol cap (2, n, s ++ t) = true ∧ seeD fl (ol ++ [(2, n, s)] ++ [(2, n, t)]) cap = seeD fl (ol ++ [(2, n, s ++ t)]) cap := by
  have h1 := do_ok h hx
  have h2 := do_ok h1 hy
  have e : doS (seeS fl (ol ++ [(2, n, s)]) (ol ++ [(2, n, s)]).length) (2, n, t) = doS (seeS fl ol ol.length) (2, n, s ++ t) := by
    rw [see_foldl, see_foldl, List.foldl_append, List.foldl_cons, List.foldl_nil, add_add]
  have hz : goB fl ol cap (2, n, s ++ t) = true := by
    simp only [goB, Bool.and_eq_true, decide_eq_true_eq] at hx hy ⊢
    refine ⟨by omega, by omega, ?_⟩
    rw [← e]; exact hy.2.2
  refine ⟨hz, ?_⟩
  rw [see_app h2, see_app (do_ok h hz), List.foldl_append, List.foldl_cons, List.foldl_nil, add_add]
theorem moved {fl : List Fl} {ol : List Opn} {cap : Int} {a b t : ByteArray} (hab : a ≠ b) (h : diskOk fl ol cap = true) (hu : goB fl ol cap (1, a, t) = true) (hv : goB fl (ol ++ [(1, a, t)]) cap (3, a, b) = true) :
    getS (seeD fl (ol ++ [(1, a, t)] ++ [(3, a, b)]) cap) b = (t, true) ∧ (getS (seeD fl (ol ++ [(1, a, t)] ++ [(3, a, b)]) cap) a).2 = false := by
  have h1 := do_ok h hu
  have h2 := do_ok h1 hv
  rw [see_app h2, List.foldl_append, List.foldl_cons, List.foldl_nil]
  generalize ol.foldl doS fl = l
  have e1 : doS l (1, a, t) = putS l a t := by simp [doS]
  have e2 : doS (putS l a t) (3, a, b) = putS (dropS (putS l a t) a) b t := by simp [doS, get_put]
  rw [e1, e2, get_put, get_put_ne _ _ (Ne.symm hab), get_drop]
  exact ⟨rfl, rfl⟩
theorem len_do {fl : List Fl} {ol : List Opn} {cap : Int} {o : Opn} : (doOl fl ol cap o).length ≤ ol.length + 1 := by unfold doOl; split <;> simp
theorem mem_do {fl : List Fl} {ol : List Opn} {cap : Int} {o x : Opn} (h : x ∈ doOl fl ol cap o) : x ∈ ol ∨ x = o := by
  unfold doOl at h; split at h
  · rcases List.mem_append.1 h with h | h
    · exact .inl h
    · simp at h; exact .inr h
  · exact .inl h
theorem sized_do {fl : List Fl} {ol : List Opn} {cap : Int} {o : Opn} {m : Nat} (S : Sized fl ol m) (hm : ol.length + 1 ≤ m) (ho : oneO o ≤ m) : Sized fl (doOl fl ol cap o) m :=
  ⟨S.f, Nat.le_trans len_do hm, S.b, fun x hx => by rcases mem_do hx with h | h; exact S.s x h; subst h; exact ho⟩
theorem bytes_of : ∀ c : List UInt8, bytesOf (c.map bV) = some c
  | [] => rfl
  | x :: c => by
    have e : UInt8.ofNat (x.toNat : Int).toNat = x := by rw [Int.toNat_natCast]; exact UInt8.ofNat_toNat
    have h := bytes_of c
    show (match Go.W.byteOf (bV x), bytesOf (c.map bV) with | some b, some l => some (b :: l) | _, _ => none) = _
    rw [h]
    show some (UInt8.ofNat (x.toNat : Int).toNat :: c) = _
    rw [e]
theorem bytes_in : ∀ c : List UInt8, bytesIn (c.map bV)
  | [] => trivial
  | x :: c => ⟨⟨by omega, by have := x.toNat_lt; omega⟩, bytes_in c⟩
theorem walk7 (b c : List UInt8) : PureV C 7 [.f 1 (b.map bV), .f 1 (c.map bV)] (.s (.bool true)) := by
  refine pure_of_run Try.func7 rfl (by kernel_rfl) (by kernel_rfl) (by simp) (fun _ => rfl) (fun _ => rfl) 6 1000 ?_
  by_cases n1 : (1048576 : Int) < b.length
  · simp +contextual (maxSteps := 2000000) (disch := ((try unfold LIM at *); omega)) only [↓bcase_true, ↓bcase_false, WA, simprocAttr, wrap_i64, List.length_map, n1]
    try intros
    try rfl
  by_cases n2 : (1048576 : Int) < c.length
  · simp +contextual (maxSteps := 2000000) (disch := ((try unfold LIM at *); omega)) only [↓bcase_true, ↓bcase_false, WA, simprocAttr, wrap_i64, List.length_map, n1, n2]
    try intros
    try rfl
  by_cases n3 : (4000 : Int) < c.length
  · simp +contextual (maxSteps := 2000000) (disch := ((try unfold LIM at *); omega)) only [↓bcase_true, ↓bcase_false, WA, simprocAttr, wrap_i64, List.length_map, n1, n2, n3]
    try intros
    try rfl
  simp +contextual (maxSteps := 2000000) (disch := ((try unfold LIM at *); omega)) only [↓bcase_true, ↓bcase_false, WA, simprocAttr, wrap_i64, List.length_map, n1, n2, n3]
  try intros
  refine CallThen.draw b (by omega) 1000 fun fl ol cap o hd ho => ?_
  have S := hd.sized
  have hol := hd.o
  simp +contextual (maxSteps := 2000000) (disch := ((try unfold LIM at *); omega)) only [↓bcase_true, ↓bcase_false, WA, simprocAttr, wrap_i64, dV, oV]
  refine CallThen.pure (walk31 fl ol cap S.f S.o S.b S.s) 1000 ?_
  cases ok : diskOk fl ol cap with
  | false =>
    simp +contextual (maxSteps := 2000000) (disch := ((try unfold LIM at *); omega)) only [↓bcase_true, ↓bcase_false, WA, simprocAttr, wrap_i64, dV, oV]
    refine CallThen.pure (walk33 fl ol cap S.f S.o S.b S.s) 1000 ?_
    simp +contextual (maxSteps := 2000000) (disch := ((try unfold LIM at *); omega)) only [↓bcase_true, ↓bcase_false, WA, simprocAttr, wrap_i64, ok]
  | true =>
    have hok := ok
    obtain ⟨k, hk⟩ : ∃ k : Nat, k = c.length / 2 := ⟨_, rfl⟩
    have ek : (c.length : Int).tdiv 2 = (k : Int) := by rw [Int.tdiv_eq_ediv_of_nonneg (by omega)]; omega
    obtain ⟨t, ht⟩ : ∃ t : ByteArray, t = ⟨c.toArray⟩ := ⟨_, rfl⟩
    have hts : t.size = c.length := by rw [ht]; simp [ByteArray.size]
    have hkt : (0 : Int) ≤ k ∧ (k : Int) ≤ t.size := by omega
    simp +contextual (maxSteps := 2000000) (disch := ((try unfold LIM at *); omega)) only [↓bcase_true, ↓bcase_false, WA, simprocAttr, wrap_i64, dV, oV, List.length_map, bytes_of, bytes_in, ← ht, ek]
    try intro _
    obtain ⟨o1, ho1⟩ : ∃ o1 : Opn, o1 = (2, o.2.1, t.extract 0 k) := ⟨_, rfl⟩
    have z1 : oneO o1 ≤ 10000 := by subst ho1; simp only [oneO] at ho ⊢; rw [ByteArray.size_extract]; omega
    have p1 := pure36 fl ol cap o1 S (by omega)
    obtain ⟨a1, a2, a3, a4, ok1⟩ := op_ok hok o1
    rw [a1, a2, a3, a4] at p1
    have S1 : Sized fl (doOl fl ol cap o1) 1048576 := sized_do S (by omega) (by omega)
    have L1 := len_do (fl := fl) (ol := ol) (cap := cap) (o := o1)
    refine DrawThen.cut (ι := Unit) (fun _ => True) (fun _ => [(5, .ptr 0 0 0), (6, .ptr 1 0 0), (7, .s (.string t)), (8, .s (.int .i64 k)), (9, .ptr 2 0 0), (10, .s (.bool (goB fl ol cap o1)))]) (fun _ => [⟨[dV fl ol cap], 3, 1, true⟩, ⟨[oV o], 3, 1, true⟩, ⟨[dV fl (doOl fl ol cap o1) cap], 3, 1, true⟩]) 1000 ?_ ?_
    · skip
      refine DrawThen.of 1000 [] (.old 0 (.old 1 (.old 2 (.old 3 (.old 4 (.old 5 (.old 6 (.or 7 (.new 8 (.new 9 (.new 10 (.go 11 (.go 12 (.new 13 .done)))))) (.go 11 (.go 7 (.new 8 (.new 9 (.new 10 (.go 12 (.new 13 .done))))))))))))))) (panFree_loopN (panFree_pure _ _ _)) (by kernel_rfl) (by kernel_rfl) (by kernel_rfl) ?_
      simp +contextual (maxSteps := 2000000) (disch := ((try unfold LIM at *); omega)) only [↓bcase_true, ↓bcase_false, WA, simprocAttr, wrap_i64, dV, oV, hkt]
      refine ⟨?_, ?_⟩
      · subst ho1
        refine DCall.pure p1 1000 (.new 8 (.new 9 (.new 10 (.go 11 (.go 12 (.new 13 .done)))))) (by kernel_rfl) ?_
        simp +contextual (maxSteps := 2000000) (disch := ((try unfold LIM at *); omega)) only [↓bcase_true, ↓bcase_false, WA, simprocAttr, wrap_i64, dV, oV, hkt]
        repeat' apply And.intro
        all_goals
          exact joint_of () [0, 1, 2] trivial (by simp) rfl ⟨.inl ⟨rfl, rfl⟩, .inl ⟨rfl, rfl⟩, .inl ⟨rfl, rfl⟩, trivial⟩ ⟨rfl, rfl, rfl, rfl, rfl, rfl, trivial⟩
      · subst ho1
        refine DCall.pure p1 1000 (.new 8 (.new 9 (.new 10 (.go 12 (.new 13 .done))))) (by kernel_rfl) ?_
        simp +contextual (maxSteps := 2000000) (disch := ((try unfold LIM at *); omega)) only [↓bcase_true, ↓bcase_false, WA, simprocAttr, wrap_i64, dV, oV, hkt]
        repeat' apply And.intro
        all_goals
          exact joint_of () [0, 1, 2] trivial (by simp) rfl ⟨.inl ⟨rfl, rfl⟩, .inl ⟨rfl, rfl⟩, .inl ⟨rfl, rfl⟩, trivial⟩ ⟨rfl, rfl, rfl, rfl, rfl, rfl, trivial⟩
    rintro _ _
    generalize hx : goB fl ol cap o1 = x at *
    generalize hl1 : doOl fl ol cap o1 = ol1 at *
    obtain ⟨o2, ho2⟩ : ∃ o2 : Opn, o2 = (2, o.2.1, t.extract k t.size) := ⟨_, rfl⟩
    have z2 : oneO o2 ≤ 10000 := by subst ho2; simp only [oneO] at ho ⊢; rw [ByteArray.size_extract]; omega
    have p2 := pure36 fl ol1 cap o2 S1 (by omega)
    obtain ⟨b1, b2, b3, b4, ok2⟩ := op_ok ok1 o2
    rw [b1, b2, b3, b4] at p2
    have S2 : Sized fl (doOl fl ol1 cap o2) 1048576 := sized_do S1 (by omega) (by omega)
    refine DrawThen.cut (ι := Unit) (fun _ => True) (fun _ => [(5, .ptr 0 0 0), (6, .ptr 1 0 0), (7, .s (.string t)), (10, .s (.bool x)), (11, .ptr 2 0 0), (12, .s (.bool (goB fl ol1 cap o2)))]) (fun _ => [⟨[dV fl ol cap], 3, 1, true⟩, ⟨[oV o], 3, 1, true⟩, ⟨[dV fl (doOl fl ol1 cap o2) cap], 3, 1, true⟩]) 1000 ?_ ?_
    · simp +contextual (maxSteps := 2000000) (disch := ((try unfold LIM at *); omega)) only [↓bcase_true, ↓bcase_false, WA, simprocAttr, wrap_i64, dV, oV]
      refine DrawThen.of 1000 [] (.old 0 (.old 1 (.old 2 (.old 3 (.old 4 (.old 5 (.old 6 (.or 7 (.new 8 (.new 9 (.new 10 (.go 11 (.go 12 (.new 13 .done)))))) (.go 11 (.go 7 (.new 8 (.new 9 (.new 10 (.go 12 (.new 13 .done))))))))))))))) (panFree_loopN (panFree_pure _ _ _)) (by kernel_rfl) (by kernel_rfl) (by kernel_rfl) ?_
      simp +contextual (maxSteps := 2000000) (disch := ((try unfold LIM at *); omega)) only [↓bcase_true, ↓bcase_false, WA, simprocAttr, wrap_i64, dV, oV, hkt]
      refine ⟨?_, ?_⟩
      · subst ho2
        refine DCall.pure p2 1000 (.new 8 (.new 9 (.new 10 (.go 11 (.go 12 (.new 13 .done)))))) (by kernel_rfl) ?_
        simp +contextual (maxSteps := 2000000) (disch := ((try unfold LIM at *); omega)) only [↓bcase_true, ↓bcase_false, WA, simprocAttr, wrap_i64, dV, oV, hkt]
        repeat' apply And.intro
        all_goals
          exact joint_of () [0, 1, 3] trivial (by simp) rfl ⟨.inl ⟨rfl, rfl⟩, .inl ⟨rfl, rfl⟩, .inl ⟨rfl, rfl⟩, trivial⟩ ⟨rfl, rfl, rfl, rfl, rfl, rfl, trivial⟩
      · subst ho2
        refine DCall.pure p2 1000 (.new 8 (.new 9 (.new 10 (.go 12 (.new 13 .done))))) (by kernel_rfl) ?_
        simp +contextual (maxSteps := 2000000) (disch := ((try unfold LIM at *); omega)) only [↓bcase_true, ↓bcase_false, WA, simprocAttr, wrap_i64, dV, oV, hkt]
        repeat' apply And.intro
        all_goals
          exact joint_of () [0, 1, 3] trivial (by simp) rfl ⟨.inl ⟨rfl, rfl⟩, .inl ⟨rfl, rfl⟩, .inl ⟨rfl, rfl⟩, trivial⟩ ⟨rfl, rfl, rfl, rfl, rfl, rfl, trivial⟩
    rintro _ _
    generalize hy : goB fl ol1 cap o2 = y at *
    generalize hl2 : doOl fl ol1 cap o2 = ol2 at *
    obtain ⟨o3, ho3⟩ : ∃ o3 : Opn, o3 = (2, o.2.1, t) := ⟨_, rfl⟩
    have z3 : oneO o3 ≤ 10000 := by subst ho3; simp only [oneO] at ho ⊢; omega
    have p3 := pure36 fl ol cap o3 S (by omega)
    have s3 := spec37 fl ol cap o3 S (by omega)
    obtain ⟨c1, c2, c3, c4, ok3⟩ := op_ok hok o3
    rw [c1, c2, c3, c4] at p3 s3
    have S3 : Sized fl (doOl fl ol cap o3) 1048576 := sized_do S (by omega) (by omega)
    generalize hz : goB fl ol cap o3 = z at *
    generalize hl3 : doOl fl ol cap o3 = ol3 at *
    have q3 : V.agg [.s (.int .i64 2), .s (.string o.2.1), .s (.string t)] = .agg (oV o3) := by subst ho3; rfl
    simp +contextual (maxSteps := 2000000) (disch := ((try unfold LIM at *); omega)) only [↓bcase_true, ↓bcase_false, WA, simprocAttr, wrap_i64, dV, oV, q3]
    refine CallThen.pure p3 1000 ?_
    simp +contextual (maxSteps := 2000000) (disch := ((try unfold LIM at *); omega)) only [↓bcase_true, ↓bcase_false, WA, simprocAttr, wrap_i64, dV, oV, q3]
    refine CallThen.pure s3 1000 ?_
    simp +contextual (maxSteps := 2000000) (disch := ((try unfold LIM at *); omega)) only [↓bcase_true, ↓bcase_false, WA, simprocAttr, wrap_i64, dV, oV, q3]
    refine DrawThen.cut (ι := Unit) (fun _ => True) (fun _ => [(5, .ptr 0 0 0), (7, .s (.string t)), (114, .s (.bool false))]) (fun _ => [⟨[dV fl ol cap], 3, 1, true⟩]) 1000 ?_ ?_
    · cases x with
      | false =>
        refine DrawThen.of 1000 [] (.old 0 (.old 1 (.old 2 (.old 3 (.old 4 (.old 5 (.old 6 (.old 7 (.old 8 (.old 9 (.old 10 (.old 11 (.old 12 (.old 14 (.go 13 (.go 15 (.go 16 (.new 17 (.new 18 (.new 19 (.new 20 .done))))))))))))))))))))) (panFree_loopN (panFree_pure _ _ _)) (by kernel_rfl) (by kernel_rfl) (by kernel_rfl) ?_
        simp +contextual (maxSteps := 2000000) (disch := ((try unfold LIM at *); omega)) only [↓bcase_true, ↓bcase_false, WA, simprocAttr, wrap_i64, dV, oV, bne_self_eq_false]
        repeat' apply And.intro
        all_goals
          exact joint_of () [0] trivial (by simp) rfl ⟨.inl ⟨rfl, rfl⟩, trivial⟩ ⟨rfl, rfl, rfl, trivial⟩
      | true =>
        cases y with
        | false =>
          refine DrawThen.of 1000 [] (.old 0 (.old 1 (.old 2 (.old 3 (.old 4 (.old 5 (.old 6 (.old 7 (.old 8 (.old 9 (.old 10 (.old 11 (.old 12 (.old 14 (.go 13 (.go 15 (.go 16 (.new 17 (.new 18 (.new 19 (.new 20 .done))))))))))))))))))))) (panFree_loopN (panFree_pure _ _ _)) (by kernel_rfl) (by kernel_rfl) (by kernel_rfl) ?_
          simp +contextual (maxSteps := 2000000) (disch := ((try unfold LIM at *); omega)) only [↓bcase_true, ↓bcase_false, WA, simprocAttr, wrap_i64, dV, oV, bne_self_eq_false]
          repeat' apply And.intro
          all_goals
            exact joint_of () [0] trivial (by simp) rfl ⟨.inl ⟨rfl, rfl⟩, trivial⟩ ⟨rfl, rfl, rfl, trivial⟩
        | true =>
          have tt : t.extract 0 k ++ t.extract k t.size = t := by
            rw [ByteArray.extract_append_extract]
            have : min 0 k = 0 := by omega
            have : max k t.size = t.size := by omega
            simp [*]
          have e1 : ol1 = ol ++ [o1] := by rw [← hl1]; simp [doOl, hx]
          have e2 : ol2 = ol ++ [o1] ++ [o2] := by rw [← hl2, e1]; rw [e1] at hy; simp [doOl, hy]
          rw [e1] at hy
          rw [ho1] at hx hy e2
          rw [ho2] at hy e2
          obtain ⟨hz', he⟩ := pieces ok (by omega) hx hy
          rw [tt] at hz' he
          rw [ho3, hz'] at hz
          have e3 : ol3 = ol ++ [o3] := by rw [← hl3]; rw [ho3]; simp [doOl, hz']
          have ed : seeD fl ol2 cap = seeD fl ol3 cap := by rw [e2, e3, ho3]; exact he
          subst hz
          refine DrawThen.of 1000 [] (.old 0 (.old 1 (.old 2 (.old 3 (.old 4 (.old 5 (.old 6 (.old 7 (.old 8 (.old 9 (.old 10 (.old 11 (.old 12 (.old 14 (.go 13 (.go 15 (.go 16 (.new 17 (.new 18 (.new 19 (.new 20 .done))))))))))))))))))))) (panFree_loopN (panFree_pure _ _ _)) (by kernel_rfl) (by kernel_rfl) (by kernel_rfl) ?_
          simp +contextual (maxSteps := 2000000) (disch := ((try unfold LIM at *); omega)) only [↓bcase_true, ↓bcase_false, WA, simprocAttr, wrap_i64, dV, oV, bne_self_eq_false]
          refine DCall.pure (pure39 fl ol2 cap S2) 1000 (.go 15 (.go 16 (.new 17 (.new 18 (.new 19 (.new 20 .done)))))) (by kernel_rfl) ?_
          simp +contextual (maxSteps := 2000000) (disch := ((try unfold LIM at *); omega)) only [↓bcase_true, ↓bcase_false, WA, simprocAttr, wrap_i64, dV, oV, bne_self_eq_false]
          refine DCall.pure (pure39 fl ol3 cap S3) 1000 (.go 16 (.new 17 (.new 18 (.new 19 (.new 20 .done))))) (by kernel_rfl) ?_
          simp +contextual (maxSteps := 2000000) (disch := ((try unfold LIM at *); omega)) only [↓bcase_true, ↓bcase_false, WA, simprocAttr, wrap_i64, dV, oV, bne_self_eq_false]
          rw [ed]
          refine DCall.pure (walk38 (seeD fl ol3 cap) (seeD fl ol3 cap)) 1000 (.new 17 (.new 18 (.new 19 (.new 20 .done)))) (by kernel_rfl) ?_
          simp +contextual (maxSteps := 2000000) (disch := ((try unfold LIM at *); omega)) only [↓bcase_true, ↓bcase_false, WA, simprocAttr, wrap_i64, dV, oV, bne_self_eq_false]
          exact joint_of () [0] trivial (by simp) rfl ⟨.inl ⟨rfl, rfl⟩, trivial⟩ ⟨rfl, rfl, rfl, trivial⟩
    rintro _ _
    obtain ⟨nw, hnw⟩ : ∃ nw : ByteArray, nw = ⟨#[110, 101, 119]⟩ := ⟨_, rfl⟩
    obtain ⟨od, hod⟩ : ∃ od : ByteArray, od = ⟨#[111, 108, 100]⟩ := ⟨_, rfl⟩
    have hne : nw ≠ od := by rw [hnw, hod]; decide
    have zn : nw.size = 3 := by rw [hnw]; rfl
    have zo : od.size = 3 := by rw [hod]; rfl
    obtain ⟨o4, ho4⟩ : ∃ o4 : Opn, o4 = (1, nw, t) := ⟨_, rfl⟩
    obtain ⟨o5, ho5⟩ : ∃ o5 : Opn, o5 = (3, nw, od) := ⟨_, rfl⟩
    have z4 : oneO o4 ≤ 10000 := by subst ho4; simp only [oneO]; omega
    have z5 : oneO o5 ≤ 10000 := by subst ho5; simp only [oneO]; omega
    have p4 := pure36 fl ol cap o4 S (by omega)
    obtain ⟨d1, d2, d3, d4, ok4⟩ := op_ok hok o4
    rw [d1, d2, d3, d4] at p4
    have S4 : Sized fl (doOl fl ol cap o4) 1048576 := sized_do S (by omega) (by omega)
    have L4 := len_do (fl := fl) (ol := ol) (cap := cap) (o := o4)
    generalize hu : goB fl ol cap o4 = u at *
    generalize hl4 : doOl fl ol cap o4 = ol4 at *
    have p5 := pure36 fl ol4 cap o5 S4 (by omega)
    obtain ⟨f1, f2, f3, f4, ok5⟩ := op_ok ok4 o5
    rw [f1, f2, f3, f4] at p5
    have S5 : Sized fl (doOl fl ol4 cap o5) 1048576 := sized_do S4 (by omega) (by omega)
    generalize hv : goB fl ol4 cap o5 = v at *
    generalize hl5 : doOl fl ol4 cap o5 = ol5 at *
    have q4 : V.agg [.s (.int .i64 1), .s (.string nw), .s (.string t)] = .agg (oV o4) := by subst ho4; rfl
    have q5 : V.agg [.s (.int .i64 3), .s (.string nw), .s (.string od)] = .agg (oV o5) := by subst ho5; rfl
    simp +contextual (maxSteps := 2000000) (disch := ((try unfold LIM at *); omega)) only [↓bcase_true, ↓bcase_false, WA, simprocAttr, wrap_i64, dV, ← hnw, ← hod, q4]
    refine CallThen.pure p4 1000 ?_
    simp +contextual (maxSteps := 2000000) (disch := ((try unfold LIM at *); omega)) only [↓bcase_true, ↓bcase_false, WA, simprocAttr, wrap_i64, dV, ← hnw, ← hod, q5]
    refine CallThen.pure p5 1000 ?_
    simp +contextual (maxSteps := 2000000) (disch := ((try unfold LIM at *); omega)) only [↓bcase_true, ↓bcase_false, WA, simprocAttr, wrap_i64, dV, ← hnw, ← hod]
    refine CallThen.pure (walk40 fl ol5 cap od S5) 1000 ?_
    simp +contextual (maxSteps := 2000000) (disch := ((try unfold LIM at *); omega)) only [↓bcase_true, ↓bcase_false, WA, simprocAttr, wrap_i64, dV, ← hnw, ← hod]
    refine CallThen.pure (walk40 fl ol5 cap nw S5) 1000 ?_
    cases u with
    | false => simp +contextual (maxSteps := 2000000) (disch := ((try unfold LIM at *); omega)) only [↓bcase_true, ↓bcase_false, WA, simprocAttr, wrap_i64, dV]
    | true =>
      cases v with
      | false => simp +contextual (maxSteps := 2000000) (disch := ((try unfold LIM at *); omega)) only [↓bcase_true, ↓bcase_false, WA, simprocAttr, wrap_i64, dV]
      | true =>
        have e4 : ol4 = ol ++ [o4] := by rw [← hl4]; simp [doOl, hu]
        have e5 : ol5 = ol ++ [o4] ++ [o5] := by rw [← hl5, doOl, if_pos hv, e4]
        rw [e4] at hv
        rw [ho4] at hu hv e5
        rw [ho5] at hv e5
        obtain ⟨m1, m2⟩ := moved hne ok hu hv
        rw [← e5] at m1 m2
        rw [m1, m2]
        simp +contextual (maxSteps := 2000000) (disch := ((try unfold LIM at *); omega)) only [↓bcase_true, ↓bcase_false, WA, simprocAttr, wrap_i64, dV, decide_true]
end Go.Proofs.Ytpcgnmoogjahbaa
