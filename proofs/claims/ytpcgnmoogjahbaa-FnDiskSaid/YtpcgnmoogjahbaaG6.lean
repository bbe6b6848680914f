/- What functions of the program answer, walked on the abstract layer, and closed facts of the program; the conditions stand in each theorem. -/
import Derived.Test.YtpcgnmoogjahbaaG5
import Derived.Test.YtpcgnmoogjahbaaRows
import Derived.WalkKit
import Derived.ProofKit
import Derived.OpenShut
import Derived.ShutString
import Derived.ChangeOld
import Derived.Below
import Derived.SizedLaws
/- part D42 -/
set_option linter.unusedVariables false
set_option linter.unusedSimpArgs false
set_option maxRecDepth 100000
namespace Go.Proofs.Ytpcgnmoogjahbaa
open Go Go.W Go.RowKit
theorem okS_take : ∀ {ol : List Opn} {fl : List Fl} {cap : Int} (n : Nat), okS fl ol cap = true → okS fl (ol.take n) cap = true
  | [], fl, cap, n, h => by rw [List.take_nil]; exact h
  | o :: r, fl, cap, 0, h => by rw [List.take_zero, okS]
  | o :: r, fl, cap, n + 1, h => by
    rw [okS] at h
    rw [List.take_succ_cons, okS]
    split at h
    · cases h
    · rename_i q
      rw [if_neg q]
      split at h
      · rename_i q2
        rw [if_pos q2]; exact okS_take n h
      · cases h
theorem take_ok {fl : List Fl} {ol : List Opn} {cap : Int} (h : diskOk fl ol cap = true) (n : Nat) : diskOk fl (ol.take n) cap = true := by
  unfold diskOk at h ⊢
  split at h
  · cases h
  · rename_i q
    split at h
    · cases h
    · rename_i q2
      rw [if_neg (by rintro (x | x | x | x) <;> first | exact q (.inl x) | exact q (.inr (.inl x)) | exact q (.inr (.inr (.inr x))) | (rw [List.length_take] at x; exact q (.inr (.inr (.inl (by omega)))))), if_neg q2]
      exact okS_take n h
theorem get_mem {l : List Fl} {f : Fl} (h : ascS l = true) (hf : f ∈ l) : getS l f.1 = (f.2, true) := by
  have hp := asc_pair h
  clear h
  induction l with
  | nil => simp at hf
  | cons a r ih =>
    rw [getS]
    rcases List.mem_cons.1 hf with rfl | hf
    · rw [if_pos rfl]
    · have := List.rel_of_pairwise_cons hp hf
      rw [if_neg (ltB_ne this)]
      exact ih hf (List.Pairwise.of_cons hp)
theorem get_do {l : List Fl} {o : Opn} {n : ByteArray} (h1 : n ≠ o.2.1) (h2 : o.1 ≠ 3 ∨ n ≠ o.2.2) : getS (doS l o) n = getS l n := by
  unfold doS
  split
  · rw [get_put_ne _ _ (Ne.symm h1)]
  · split
    · rw [get_put_ne _ _ (Ne.symm h1)]
    · split
      · rename_i q
        rcases h2 with h2 | h2
        · exact absurd q.1 h2
        · rw [get_put_ne _ _ (Ne.symm h2), get_drop_ne _ (Ne.symm h1)]
      · split
        · rw [get_drop_ne _ (Ne.symm h1)]
        · rfl
theorem seeD_nil {fl : List Fl} {cap : Int} (h : diskOk fl [] cap = true) : seeD fl [] cap = fl := by rw [seeD_ok h]; rfl
theorem sized_nil {fl : List Fl} {ol : List Opn} {cap : Int} (g : Good fl ol cap) (i : Nat) : Sized (seeS fl ol i) [] 1048576 := ⟨by have := (g.size i).1; omega, by simp, by have := (g.size i).2; omega, by simp⟩
theorem walk9 (b c : List UInt8) : PureV C 9 [.f 1 (b.map bV), .f 1 (c.map bV)] (.s (.bool true)) := by
  refine pure_of_run Try.func9 rfl (by kernel_rfl) (by kernel_rfl) (by simp) (fun _ => rfl) (fun _ => rfl) 6 1000 ?_
  by_cases n1 : (1048576 : Int) < b.length
  · simp +contextual (maxSteps := 2000000) (disch := ((try unfold LIM at *); omega)) only [↓bcase_true, ↓bcase_false, WA, simprocAttr, wrap_i64, List.length_map, n1]
    try intros
    try rfl
  by_cases n2 : (1048576 : Int) < c.length
  · simp +contextual (maxSteps := 2000000) (disch := ((try unfold LIM at *); omega)) only [↓bcase_true, ↓bcase_false, WA, simprocAttr, wrap_i64, List.length_map, n1, n2]
    try intros
    try rfl
  simp +contextual (maxSteps := 2000000) (disch := ((try unfold LIM at *); omega)) only [↓bcase_true, ↓bcase_false, WA, simprocAttr, wrap_i64, List.length_map, n1, n2]
  try intros
  refine CallThen.draw b (by omega) 1000 fun fl ol cap o hd ho => ?_
  have S := hd.sized
  have hol := hd.o
  simp +contextual (maxSteps := 2000000) (disch := ((try unfold LIM at *); omega)) only [↓bcase_true, ↓bcase_false, WA, simprocAttr, wrap_i64, dV, oV]
  generalize hb1 : opF fl ol cap = f2
  generalize hb2 : opO fl ol cap o = o2
  generalize hb3 : fallC fl ol cap = q2
  generalize hb4 : opB fl ol cap o = ok
  have p1 := pure36 fl ol cap o S (by omega)
  have s1 := spec37 fl ol cap o S (by omega)
  rw [hb1, hb2, hb3, hb4] at p1 s1
  refine CallThen.pure p1 1000 ?_
  simp +contextual (maxSteps := 2000000) (disch := ((try unfold LIM at *); omega)) only [↓bcase_true, ↓bcase_false, WA, simprocAttr, wrap_i64, dV, oV]
  refine CallThen.pure s1 1000 ?_
  simp +contextual (maxSteps := 2000000) (disch := ((try unfold LIM at *); omega)) only [↓bcase_true, ↓bcase_false, WA, simprocAttr, wrap_i64, dV, oV]
  refine CallThen.pure (pure39 fl ol cap S) 1000 ?_
  simp +contextual (maxSteps := 2000000) (disch := ((try unfold LIM at *); omega)) only [↓bcase_true, ↓bcase_false, WA, simprocAttr, wrap_i64, dV, oV]
  generalize hsl : seeD fl ol cap = sl
  have w46 := walk46 fl ol cap S
  rw [hsl] at w46
  have sl20 : sl.length ≤ 20 := hsl ▸ see_len
  refine DrawThen.cut (ι := Unit) (fun _ => True) (fun _ => [(1, .f 1 (c.map bV)), (5, .ptr 0 0 0), (6, .ptr 1 0 0), (7, .ptr 2 0 0), (8, .s (.bool ok)), (11, .f 2 (sl.map fV)), (63, .s (.bool false))]) (fun _ => [⟨[dV fl ol cap], 3, 1, true⟩, ⟨[oV o], 3, 1, true⟩, ⟨[dV f2 o2 q2], 3, 1, true⟩]) 1000 ?_ ?_
  · skip
    refine DrawThen.of 1000 [] (.old 0 (.old 1 (.old 2 (.old 3 (.old 4 (.old 5 (.go 6 (.go 7 (.new 8 (.new 9 (.new 10 (.old 11 (.old 13 (.go 12 (.go 14 (.new 15 (.new 16 .done))))))))))))))))) (panFree_loopN (panFree_pure _ _ _)) (by kernel_rfl) (by kernel_rfl) (by kernel_rfl) ?_
    simp +contextual (maxSteps := 2000000) (disch := ((try unfold LIM at *); omega)) only [↓bcase_true, ↓bcase_false, WA, simprocAttr, wrap_i64, dV, oV, bne_self_eq_false]
    refine DCall.pure w46 1000 (.go 7 (.new 8 (.new 9 (.new 10 (.old 11 (.old 13 (.go 12 (.go 14 (.new 15 (.new 16 .done)))))))))) (by kernel_rfl) ?_
    simp +contextual (maxSteps := 2000000) (disch := ((try unfold LIM at *); omega)) only [↓bcase_true, ↓bcase_false, WA, simprocAttr, wrap_i64, dV, oV, bne_self_eq_false]
    refine DCall.pure (walk38 sl sl) 1000 (.new 8 (.new 9 (.new 10 (.old 11 (.old 13 (.go 12 (.go 14 (.new 15 (.new 16 .done))))))))) (by kernel_rfl) ?_
    simp +contextual (maxSteps := 2000000) (disch := ((try unfold LIM at *); omega)) only [↓bcase_true, ↓bcase_false, WA, simprocAttr, wrap_i64, dV, oV, bne_self_eq_false]
    refine DCall.pure (walk33 fl ol cap S.f S.o S.b S.s) 1000 (.go 14 (.new 15 (.new 16 .done))) (by kernel_rfl) ?_
    simp +contextual (maxSteps := 2000000) (disch := ((try unfold LIM at *); omega)) only [↓bcase_true, ↓bcase_false, WA, simprocAttr, wrap_i64, dV, oV, bne_self_eq_false]
    refine DCall.pure (walk31 fl ol cap S.f S.o S.b S.s) 1000 (.new 15 (.new 16 .done)) (by kernel_rfl) ?_
    simp +contextual (maxSteps := 2000000) (disch := ((try unfold LIM at *); omega)) only [↓bcase_true, ↓bcase_false, WA, simprocAttr, wrap_i64, dV, oV, bne_self_eq_false]
    exact joint_of () [0, 1, 2] trivial (by simp) rfl ⟨.inl ⟨rfl, rfl⟩, .inl ⟨rfl, rfl⟩, .inl ⟨rfl, rfl⟩, trivial⟩ ⟨rfl, rfl, rfl, rfl, rfl, rfl, rfl, trivial⟩
  rintro _ _
  simp +contextual (maxSteps := 2000000) (disch := ((try unfold LIM at *); omega)) only [↓bcase_true, ↓bcase_false, WA, simprocAttr, wrap_i64, dV, oV]
  refine CallThen.pure (walk31 fl ol cap S.f S.o S.b S.s) 1000 ?_
  cases hok : diskOk fl ol cap with
  | false =>
    have e1 : sl = [] := by rw [← hsl]; simp [seeD, hok]
    have e2 : f2 = [] := by rw [← hb1]; simp [opF, hok]
    subst e1; subst e2
    simp +contextual (maxSteps := 2000000) (disch := ((try unfold LIM at *); omega)) only [↓bcase_true, ↓bcase_false, WA, simprocAttr, wrap_i64, dV, oV, List.map_nil]
  | true =>
    obtain ⟨a1, a2, a3, a4, okx⟩ := op_ok hok o
    rw [hb1] at a1; rw [hb2] at a2; rw [hb3] at a3; rw [hb4] at a4
    rw [← a2] at okx
    subst a1; subst a3
    have Sx : Sized f2 o2 1048576 := by rw [a2]; exact sized_do S (by omega) (by omega)
    have g := good_of hok
    obtain ⟨n, hn⟩ : ∃ n : Nat, n = c.length % (ol.length + 2) := ⟨_, rfl⟩
    have en : (c.length : Int).tmod ((ol.length : Int) + 2) = (n : Int) := by
      rw [Int.tmod_eq_emod_of_nonneg (by omega), show (ol.length : Int) + 2 = ((ol.length + 2 : Nat) : Int) by omega, hn]; rfl
    have eo : ¬ ((ol.length : Int) + 2 = 0) := by omega
    have hnlt : n < ol.length + 2 := by rw [hn]; exact Nat.mod_lt _ (by omega)
    simp +contextual (maxSteps := 2000000) (disch := ((try unfold LIM at *); omega)) only [↓bcase_true, ↓bcase_false, WA, simprocAttr, wrap_i64, dV, oV, List.length_map, en, eo, ne_eq]
    try intros
    obtain ⟨fs, hfs⟩ : ∃ fs, fs = seeS f2 ol n := ⟨_, rfl⟩
    have efs : fallF f2 ol q2 n = fs := by rw [hfs]; simp [fallF, hok]
    have efc : fallC f2 ol q2 = q2 := hb3
    have okf : diskOk fs [] q2 = true := hfs ▸ sync_ok hok n
    have Sf : Sized fs [] 1048576 := hfs ▸ sized_nil g n
    have oks : diskOk sl [] q2 = true := by rw [← hsl, seeD_ok hok, ← see_foldl]; exact sync_ok hok _
    have Ss : Sized sl [] 1048576 := by rw [← hsl, seeD_ok hok, ← see_foldl]; exact sized_nil g _
    have pf := pure39 fs [] q2 Sf
    rw [seeD_nil okf] at pf
    have ps := pure39 sl [] q2 Ss
    rw [seeD_nil oks] at ps
    have pn := pure47 sl [] q2 n Ss
    have en2 : fallF sl [] q2 n = sl := by simp [fallF, oks, seeS]
    have en3 : fallC sl [] q2 = q2 := by simp [fallC, oks]
    rw [en2, en3] at pn
    have px := walk33 f2 o2 q2 Sx.f Sx.o Sx.b Sx.s
    rw [okx] at px
    refine CallThen.pure (pure47 f2 ol q2 n S) 1000 ?_
    rw [efs, efc]
    by_cases hlt : (n : Int) < ol.length
    · have pn0 : (0 : Int) ≤ n ∧ (n : Int) ≤ ol.length := by omega
      have tk : (ol.map oV).take n = (ol.take n).map oV := (List.map_take ..).symm
      have okp := take_ok hok n
      have Sp : Sized f2 (ol.take n) 1048576 := ⟨S.f, by rw [List.length_take]; omega, S.b, fun x hx => S.s x (List.mem_of_mem_take hx)⟩
      have pp := pure39 f2 (ol.take n) q2 Sp
      have ep : seeD f2 (ol.take n) q2 = fs := by rw [seeD_ok okp, hfs]; rfl
      rw [ep] at pp
      simp +contextual (maxSteps := 2000000) (disch := ((try unfold LIM at *); omega)) only [↓bcase_true, ↓bcase_false, WA, simprocAttr, wrap_i64, dV, oV, List.length_map, hlt, pn0, Nat.sub_zero, tk, List.set_cons_zero, List.set_cons_succ]
      try intros
      refine CallThen.pure (pure48 f2 ol q2 S) 1000 ?_
      simp +contextual (maxSteps := 2000000) (disch := ((try unfold LIM at *); omega)) only [↓bcase_true, ↓bcase_false, WA, simprocAttr, wrap_i64, dV, oV]
      rw [hsl, efc]
      refine DrawThen.cut (ι := Unit) (fun _ => True) (fun _ => [(6, .ptr 0 0 0), (7, .ptr 1 0 0), (8, .s (.bool ok)), (11, .f 2 (sl.map fV)), (132, .s (.bool false))]) (fun _ => [⟨[oV o], 3, 1, true⟩, ⟨[dV f2 o2 q2], 3, 1, true⟩]) 1000 ?_ ?_
      · skip
        refine DrawThen.of 1000 [] (.old 0 (.old 2 (.go 1 (.go 3 (.go 4 (.new 5 (.new 6 (.old 7 (.old 8 (.old 9 (.old 10 (.new 11 (.new 12 (.old 13 (.old 15 (.go 14 (.go 16 (.new 17 (.new 18 (.new 19 (.old 20 (.old 21 (.old 24 (.old 25 (.go 22 (.new 23 (.go 26 (.new 27 (.new 28 (.new 29 (.old 30 (.go 31 (.new 32 (.new 33 .done)))))))))))))))))))))))))))))))))) (panFree_loopN (panFree_pure _ _ _)) (by kernel_rfl) (by kernel_rfl) (by kernel_rfl) ?_
        simp +contextual (maxSteps := 2000000) (disch := ((try unfold LIM at *); omega)) only [↓bcase_true, ↓bcase_false, WA, simprocAttr, wrap_i64, dV, oV, bne_self_eq_false, List.length_nil, List.map_nil, Nat.zero_le]
        refine DCall.pure pf 1000 (.go 3 (.go 4 (.new 5 (.new 6 (.old 7 (.old 8 (.old 9 (.old 10 (.new 11 (.new 12 (.old 13 (.old 15 (.go 14 (.go 16 (.new 17 (.new 18 (.new 19 (.old 20 (.old 21 (.old 24 (.old 25 (.go 22 (.new 23 (.go 26 (.new 27 (.new 28 (.new 29 (.old 30 (.go 31 (.new 32 (.new 33 .done))))))))))))))))))))))))))))))) (by kernel_rfl) ?_
        simp +contextual (maxSteps := 2000000) (disch := ((try unfold LIM at *); omega)) only [↓bcase_true, ↓bcase_false, WA, simprocAttr, wrap_i64, dV, oV, bne_self_eq_false, List.length_nil, List.map_nil, Nat.zero_le]
        refine DCall.pure pp 1000 (.go 4 (.new 5 (.new 6 (.old 7 (.old 8 (.old 9 (.old 10 (.new 11 (.new 12 (.old 13 (.old 15 (.go 14 (.go 16 (.new 17 (.new 18 (.new 19 (.old 20 (.old 21 (.old 24 (.old 25 (.go 22 (.new 23 (.go 26 (.new 27 (.new 28 (.new 29 (.old 30 (.go 31 (.new 32 (.new 33 .done)))))))))))))))))))))))))))))) (by kernel_rfl) ?_
        simp +contextual (maxSteps := 2000000) (disch := ((try unfold LIM at *); omega)) only [↓bcase_true, ↓bcase_false, WA, simprocAttr, wrap_i64, dV, oV, bne_self_eq_false, List.length_nil, List.map_nil, Nat.zero_le]
        refine DCall.pure (walk38 fs fs) 1000 (.new 5 (.new 6 (.old 7 (.old 8 (.old 9 (.old 10 (.new 11 (.new 12 (.old 13 (.old 15 (.go 14 (.go 16 (.new 17 (.new 18 (.new 19 (.old 20 (.old 21 (.old 24 (.old 25 (.go 22 (.new 23 (.go 26 (.new 27 (.new 28 (.new 29 (.old 30 (.go 31 (.new 32 (.new 33 .done))))))))))))))))))))))))))))) (by kernel_rfl) ?_
        simp +contextual (maxSteps := 2000000) (disch := ((try unfold LIM at *); omega)) only [↓bcase_true, ↓bcase_false, WA, simprocAttr, wrap_i64, dV, oV, bne_self_eq_false, List.length_nil, List.map_nil, Nat.zero_le]
        refine DCall.pure ps 1000 (.go 16 (.new 17 (.new 18 (.new 19 (.old 20 (.old 21 (.old 24 (.old 25 (.go 22 (.new 23 (.go 26 (.new 27 (.new 28 (.new 29 (.old 30 (.go 31 (.new 32 (.new 33 .done)))))))))))))))))) (by kernel_rfl) ?_
        simp +contextual (maxSteps := 2000000) (disch := ((try unfold LIM at *); omega)) only [↓bcase_true, ↓bcase_false, WA, simprocAttr, wrap_i64, dV, oV, bne_self_eq_false, List.length_nil, List.map_nil, Nat.zero_le]
        refine DCall.pure (walk38 sl sl) 1000 (.new 17 (.new 18 (.new 19 (.old 20 (.old 21 (.old 24 (.old 25 (.go 22 (.new 23 (.go 26 (.new 27 (.new 28 (.new 29 (.old 30 (.go 31 (.new 32 (.new 33 .done))))))))))))))))) (by kernel_rfl) ?_
        simp +contextual (maxSteps := 2000000) (disch := ((try unfold LIM at *); omega)) only [↓bcase_true, ↓bcase_false, WA, simprocAttr, wrap_i64, dV, oV, bne_self_eq_false, List.length_nil, List.map_nil, Nat.zero_le]
        refine DCall.pure pn 1000 (.new 23 (.go 26 (.new 27 (.new 28 (.new 29 (.old 30 (.go 31 (.new 32 (.new 33 .done))))))))) (by kernel_rfl) ?_
        simp +contextual (maxSteps := 2000000) (disch := ((try unfold LIM at *); omega)) only [↓bcase_true, ↓bcase_false, WA, simprocAttr, wrap_i64, dV, oV, bne_self_eq_false, List.length_nil, List.map_nil, Nat.zero_le]
        refine DCall.pure (walk38 sl sl) 1000 (.new 27 (.new 28 (.new 29 (.old 30 (.go 31 (.new 32 (.new 33 .done))))))) (by kernel_rfl) ?_
        simp +contextual (maxSteps := 2000000) (disch := ((try unfold LIM at *); omega)) only [↓bcase_true, ↓bcase_false, WA, simprocAttr, wrap_i64, dV, oV, bne_self_eq_false, List.length_nil, List.map_nil, Nat.zero_le]
        refine DCall.pure px 1000 (.new 32 (.new 33 .done)) (by kernel_rfl) ?_
        simp +contextual (maxSteps := 2000000) (disch := ((try unfold LIM at *); omega)) only [↓bcase_true, ↓bcase_false, WA, simprocAttr, wrap_i64, dV, oV, bne_self_eq_false, List.length_nil, List.map_nil, Nat.zero_le]
        exact joint_of () [1, 2] trivial (by simp) rfl ⟨.inl ⟨rfl, rfl⟩, .inl ⟨rfl, rfl⟩, trivial⟩ ⟨rfl, rfl, rfl, rfl, rfl, trivial⟩
      rintro _ _
      simp +contextual (maxSteps := 2000000) (disch := ((try unfold LIM at *); omega)) only [↓bcase_true, ↓bcase_false, WA, simprocAttr, wrap_i64, dV, oV]
      refine CallThen.pure (pure39 f2 o2 q2 Sx) 1000 ?_
      cases ok with
      | false =>
        have eo2 : o2 = ol := by rw [a2]; simp [doOl, ← a4]
        have ew : seeD f2 o2 q2 = sl := by rw [eo2]; exact hsl
        rw [ew]
        simp +contextual (maxSteps := 2000000) (disch := ((try unfold LIM at *); omega)) only [↓bcase_true, ↓bcase_false, WA, simprocAttr, wrap_i64, dV, oV]
        refine CallThen.pure (walk38 sl sl) 1000 ?_
        simp +contextual (maxSteps := 2000000) (disch := ((try unfold LIM at *); omega)) only [↓bcase_true, ↓bcase_false, WA, simprocAttr, wrap_i64, dV]
      | true =>
        have eo2 : o2 = ol ++ [o] := by rw [a2]; simp [doOl, ← a4]
        have ew : seeD f2 o2 q2 = doS sl o := by
          rw [eo2] at okx ⊢
          rw [see_app okx, ← hsl, seeD_ok hok]
        have asl : ascS sl = true := by rw [← hsl, seeD_ok hok, ← see_foldl]; exact g.asc _
        simp +contextual (maxSteps := 2000000) (disch := ((try unfold LIM at *); omega)) only [↓bcase_true, ↓bcase_false, WA, simprocAttr, wrap_i64, dV, oV]
        refine LoopThen.pure (ι := Nat) (fun i => i ≤ sl.length) (fun i => keepL [(6, .pd (oV o)), (7, .pd (dV f2 o2 q2)), (11, .f 2 (sl.map fV)), (17, .s (.int .i64 i))]) (fun i => sl.length - i) 6 [6, 7, 11, 17] 1000 1000 ⟨0, Nat.zero_le _, by simp +contextual (maxSteps := 2000000) (disch := ((try unfold LIM at *); omega)) only [↓bcase_true, ↓bcase_false, WA, simprocAttr, wrap_i64, dV, oV]⟩ ?_
        rintro i pi1
        by_cases d : (i : Int) < sl.length
        · obtain ⟨f, hf⟩ := get_lt d
          have pi : (0 : Int) ≤ i := by omega
          have w40 := walk40 f2 o2 q2 f.1 Sx
          rw [ew] at w40
          simp +contextual (maxSteps := 2000000) (disch := ((try unfold LIM at *); omega)) only [↓bcase_true, ↓bcase_false, WA, simprocAttr, wrap_i64, dV, oV, fV, List.length_map, d, pi, hf]
          try intros
          refine DrawThen.of 1000 [] (.old 0 (.old 1 (.old 2 (.old 3 (.old 4 (.old 5 (.go 6 (.new 7 (.new 8 (.new 9 (.new 10 (.new 11 .done)))))))))))) (panFree_loopP (panFree_pure _ _ _)) (by kernel_rfl) (by kernel_rfl) (by kernel_rfl) ?_
          simp +contextual (maxSteps := 2000000) (disch := ((try unfold LIM at *); omega)) only [↓bcase_true, ↓bcase_false, WA, simprocAttr, wrap_i64, dV, oV, fV, List.length_map, d, pi, hf]
          refine DCall.pure w40 1000 (.new 7 (.new 8 (.new 9 (.new 10 (.new 11 .done))))) (by kernel_rfl) ?_
          generalize hr : getS (doS sl o) f.1 = r
          have key : f.1 ≠ o.2.1 → (o.1 ≠ 3 ∨ f.1 ≠ o.2.2) → r = (f.2, true) := fun h1 h2 => by rw [← hr, get_do h1 h2, get_mem asl (List.mem_of_getElem? hf)]
          simp +contextual (maxSteps := 2000000) (disch := ((try unfold LIM at *); omega)) only [↓bcase_true, ↓bcase_false, WA, simprocAttr, wrap_i64, dV, oV]
          refine DrawThen.of 1000 [] (.old 0 (.old 1 (.old 2 (.old 3 (.old 4 (.old 5 (.old 6 (.old 7 (.old 8 (.old 9 (.old 10 (.old 11 (.old 12 (.old 13 (.old 14 (.old 15 (.old 16 (.old 17 (.old 18 (.old 19 (.old 20 (.old 21 (.old 22 (.old 23 (.old 24 (.old 25 (.old 26 (.old 27 (.old 28 (.old 29 (.old 30 (.old 31 (.old 32 (.old 33 (.old 34 (.old 35 .done)))))))))))))))))))))))))))))))))))) (panFree_loopP (panFree_pure _ _ _)) (by kernel_rfl) (by kernel_rfl) (by kernel_rfl) ?_
          have fin : ∃ j, (j ≤ sl.length ∧ sl.length - j < sl.length - i) ∧ keepL [(6, V.pd (oV o)), (7, V.pd (dV f2 o2 q2)), (11, V.f 2 (List.map fV sl)), (17, V.s (Value.int IntKind.i64 ((i + 1 : Nat) : Int)))] = keepL [(6, V.pd (oV o)), (7, V.pd (dV f2 o2 q2)), (11, V.f 2 (List.map fV sl)), (17, V.s (Value.int IntKind.i64 j))] := ⟨i + 1, ⟨by omega, by omega⟩, rfl⟩
          simp only [oV, dV] at fin
          by_cases hA : f.1 = o.2.1
          · simp +contextual (maxSteps := 2000000) (disch := ((try unfold LIM at *); omega)) only [↓bcase_true, ↓bcase_false, WA, simprocAttr, wrap_i64, dV, oV, fV, List.length_map, d, pi, hf, hA, cast_succ]
            exact fin
          by_cases hB : o.1 = 3
          · have hB' : decide (o.1 = 3) = true := decide_eq_true hB
            by_cases hC : f.1 = o.2.2
            · have hC' : decide (f.1 = o.2.2) = true := decide_eq_true hC
              simp +contextual (maxSteps := 2000000) (disch := ((try unfold LIM at *); omega)) only [↓bcase_true, ↓bcase_false, WA, simprocAttr, wrap_i64, dV, oV, fV, List.length_map, d, pi, hf, hA, hB', hC', cast_succ]
              exact fin
            · rw [key hA (.inr hC)]
              simp +contextual (maxSteps := 2000000) (disch := ((try unfold LIM at *); omega)) only [↓bcase_true, ↓bcase_false, WA, simprocAttr, wrap_i64, dV, oV, fV, List.length_map, d, pi, hf, hA, hB', hC, cast_succ]
              exact fin
          · rw [key hA (.inl hB)]
            simp +contextual (maxSteps := 2000000) (disch := ((try unfold LIM at *); omega)) only [↓bcase_true, ↓bcase_false, WA, simprocAttr, wrap_i64, dV, oV, fV, List.length_map, d, pi, hf, hA, hB, cast_succ]
            exact fin
        · simp +contextual (maxSteps := 2000000) (disch := ((try unfold LIM at *); omega)) only [↓bcase_true, ↓bcase_false, WA, simprocAttr, wrap_i64, dV, oV, List.length_map, d]
          try intros
          try rfl
    · have pp := pure39 f2 ol q2 S
      have ep : seeD f2 ol q2 = fs := by rw [seeD_ok hok, hfs, ← see_foldl, see_all (i := n) (by omega)]
      rw [ep] at pp
      simp +contextual (maxSteps := 2000000) (disch := ((try unfold LIM at *); omega)) only [↓bcase_true, ↓bcase_false, WA, simprocAttr, wrap_i64, dV, oV, List.length_map, hlt]
      try intros
      refine CallThen.pure (pure48 f2 ol q2 S) 1000 ?_
      simp +contextual (maxSteps := 2000000) (disch := ((try unfold LIM at *); omega)) only [↓bcase_true, ↓bcase_false, WA, simprocAttr, wrap_i64, dV, oV]
      rw [hsl, efc]
      refine DrawThen.cut (ι := Unit) (fun _ => True) (fun _ => [(6, .ptr 0 0 0), (7, .ptr 1 0 0), (8, .s (.bool ok)), (11, .f 2 (sl.map fV)), (132, .s (.bool false))]) (fun _ => [⟨[oV o], 3, 1, true⟩, ⟨[dV f2 o2 q2], 3, 1, true⟩]) 1000 ?_ ?_
      · skip
        refine DrawThen.of 1000 [] (.old 0 (.old 2 (.go 1 (.go 3 (.go 4 (.new 5 (.new 6 (.old 7 (.old 8 (.old 9 (.old 10 (.new 11 (.new 12 (.old 13 (.old 15 (.go 14 (.go 16 (.new 17 (.new 18 (.new 19 (.old 20 (.old 21 (.old 24 (.old 25 (.go 22 (.new 23 (.go 26 (.new 27 (.new 28 (.new 29 (.old 30 (.go 31 (.new 32 (.new 33 .done)))))))))))))))))))))))))))))))))) (panFree_loopN (panFree_pure _ _ _)) (by kernel_rfl) (by kernel_rfl) (by kernel_rfl) ?_
        simp +contextual (maxSteps := 2000000) (disch := ((try unfold LIM at *); omega)) only [↓bcase_true, ↓bcase_false, WA, simprocAttr, wrap_i64, dV, oV, bne_self_eq_false, List.length_nil, List.map_nil, Nat.zero_le]
        refine DCall.pure pf 1000 (.go 3 (.go 4 (.new 5 (.new 6 (.old 7 (.old 8 (.old 9 (.old 10 (.new 11 (.new 12 (.old 13 (.old 15 (.go 14 (.go 16 (.new 17 (.new 18 (.new 19 (.old 20 (.old 21 (.old 24 (.old 25 (.go 22 (.new 23 (.go 26 (.new 27 (.new 28 (.new 29 (.old 30 (.go 31 (.new 32 (.new 33 .done))))))))))))))))))))))))))))))) (by kernel_rfl) ?_
        simp +contextual (maxSteps := 2000000) (disch := ((try unfold LIM at *); omega)) only [↓bcase_true, ↓bcase_false, WA, simprocAttr, wrap_i64, dV, oV, bne_self_eq_false, List.length_nil, List.map_nil, Nat.zero_le]
        refine DCall.pure pp 1000 (.go 4 (.new 5 (.new 6 (.old 7 (.old 8 (.old 9 (.old 10 (.new 11 (.new 12 (.old 13 (.old 15 (.go 14 (.go 16 (.new 17 (.new 18 (.new 19 (.old 20 (.old 21 (.old 24 (.old 25 (.go 22 (.new 23 (.go 26 (.new 27 (.new 28 (.new 29 (.old 30 (.go 31 (.new 32 (.new 33 .done)))))))))))))))))))))))))))))) (by kernel_rfl) ?_
        simp +contextual (maxSteps := 2000000) (disch := ((try unfold LIM at *); omega)) only [↓bcase_true, ↓bcase_false, WA, simprocAttr, wrap_i64, dV, oV, bne_self_eq_false, List.length_nil, List.map_nil, Nat.zero_le]
        refine DCall.pure (walk38 fs fs) 1000 (.new 5 (.new 6 (.old 7 (.old 8 (.old 9 (.old 10 (.new 11 (.new 12 (.old 13 (.old 15 (.go 14 (.go 16 (.new 17 (.new 18 (.new 19 (.old 20 (.old 21 (.old 24 (.old 25 (.go 22 (.new 23 (.go 26 (.new 27 (.new 28 (.new 29 (.old 30 (.go 31 (.new 32 (.new 33 .done))))))))))))))))))))))))))))) (by kernel_rfl) ?_
        simp +contextual (maxSteps := 2000000) (disch := ((try unfold LIM at *); omega)) only [↓bcase_true, ↓bcase_false, WA, simprocAttr, wrap_i64, dV, oV, bne_self_eq_false, List.length_nil, List.map_nil, Nat.zero_le]
        refine DCall.pure ps 1000 (.go 16 (.new 17 (.new 18 (.new 19 (.old 20 (.old 21 (.old 24 (.old 25 (.go 22 (.new 23 (.go 26 (.new 27 (.new 28 (.new 29 (.old 30 (.go 31 (.new 32 (.new 33 .done)))))))))))))))))) (by kernel_rfl) ?_
        simp +contextual (maxSteps := 2000000) (disch := ((try unfold LIM at *); omega)) only [↓bcase_true, ↓bcase_false, WA, simprocAttr, wrap_i64, dV, oV, bne_self_eq_false, List.length_nil, List.map_nil, Nat.zero_le]
        refine DCall.pure (walk38 sl sl) 1000 (.new 17 (.new 18 (.new 19 (.old 20 (.old 21 (.old 24 (.old 25 (.go 22 (.new 23 (.go 26 (.new 27 (.new 28 (.new 29 (.old 30 (.go 31 (.new 32 (.new 33 .done))))))))))))))))) (by kernel_rfl) ?_
        simp +contextual (maxSteps := 2000000) (disch := ((try unfold LIM at *); omega)) only [↓bcase_true, ↓bcase_false, WA, simprocAttr, wrap_i64, dV, oV, bne_self_eq_false, List.length_nil, List.map_nil, Nat.zero_le]
        refine DCall.pure pn 1000 (.new 23 (.go 26 (.new 27 (.new 28 (.new 29 (.old 30 (.go 31 (.new 32 (.new 33 .done))))))))) (by kernel_rfl) ?_
        simp +contextual (maxSteps := 2000000) (disch := ((try unfold LIM at *); omega)) only [↓bcase_true, ↓bcase_false, WA, simprocAttr, wrap_i64, dV, oV, bne_self_eq_false, List.length_nil, List.map_nil, Nat.zero_le]
        refine DCall.pure (walk38 sl sl) 1000 (.new 27 (.new 28 (.new 29 (.old 30 (.go 31 (.new 32 (.new 33 .done))))))) (by kernel_rfl) ?_
        simp +contextual (maxSteps := 2000000) (disch := ((try unfold LIM at *); omega)) only [↓bcase_true, ↓bcase_false, WA, simprocAttr, wrap_i64, dV, oV, bne_self_eq_false, List.length_nil, List.map_nil, Nat.zero_le]
        refine DCall.pure px 1000 (.new 32 (.new 33 .done)) (by kernel_rfl) ?_
        simp +contextual (maxSteps := 2000000) (disch := ((try unfold LIM at *); omega)) only [↓bcase_true, ↓bcase_false, WA, simprocAttr, wrap_i64, dV, oV, bne_self_eq_false, List.length_nil, List.map_nil, Nat.zero_le]
        exact joint_of () [1, 2] trivial (by simp) rfl ⟨.inl ⟨rfl, rfl⟩, .inl ⟨rfl, rfl⟩, trivial⟩ ⟨rfl, rfl, rfl, rfl, rfl, trivial⟩
      rintro _ _
      simp +contextual (maxSteps := 2000000) (disch := ((try unfold LIM at *); omega)) only [↓bcase_true, ↓bcase_false, WA, simprocAttr, wrap_i64, dV, oV]
      refine CallThen.pure (pure39 f2 o2 q2 Sx) 1000 ?_
      cases ok with
      | false =>
        have eo2 : o2 = ol := by rw [a2]; simp [doOl, ← a4]
        have ew : seeD f2 o2 q2 = sl := by rw [eo2]; exact hsl
        rw [ew]
        simp +contextual (maxSteps := 2000000) (disch := ((try unfold LIM at *); omega)) only [↓bcase_true, ↓bcase_false, WA, simprocAttr, wrap_i64, dV, oV]
        refine CallThen.pure (walk38 sl sl) 1000 ?_
        simp +contextual (maxSteps := 2000000) (disch := ((try unfold LIM at *); omega)) only [↓bcase_true, ↓bcase_false, WA, simprocAttr, wrap_i64, dV]
      | true =>
        have eo2 : o2 = ol ++ [o] := by rw [a2]; simp [doOl, ← a4]
        have ew : seeD f2 o2 q2 = doS sl o := by
          rw [eo2] at okx ⊢
          rw [see_app okx, ← hsl, seeD_ok hok]
        have asl : ascS sl = true := by rw [← hsl, seeD_ok hok, ← see_foldl]; exact g.asc _
        simp +contextual (maxSteps := 2000000) (disch := ((try unfold LIM at *); omega)) only [↓bcase_true, ↓bcase_false, WA, simprocAttr, wrap_i64, dV, oV]
        refine LoopThen.pure (ι := Nat) (fun i => i ≤ sl.length) (fun i => keepL [(6, .pd (oV o)), (7, .pd (dV f2 o2 q2)), (11, .f 2 (sl.map fV)), (17, .s (.int .i64 i))]) (fun i => sl.length - i) 6 [6, 7, 11, 17] 1000 1000 ⟨0, Nat.zero_le _, by simp +contextual (maxSteps := 2000000) (disch := ((try unfold LIM at *); omega)) only [↓bcase_true, ↓bcase_false, WA, simprocAttr, wrap_i64, dV, oV]⟩ ?_
        rintro i pi1
        by_cases d : (i : Int) < sl.length
        · obtain ⟨f, hf⟩ := get_lt d
          have pi : (0 : Int) ≤ i := by omega
          have w40 := walk40 f2 o2 q2 f.1 Sx
          rw [ew] at w40
          simp +contextual (maxSteps := 2000000) (disch := ((try unfold LIM at *); omega)) only [↓bcase_true, ↓bcase_false, WA, simprocAttr, wrap_i64, dV, oV, fV, List.length_map, d, pi, hf]
          try intros
          refine DrawThen.of 1000 [] (.old 0 (.old 1 (.old 2 (.old 3 (.old 4 (.old 5 (.go 6 (.new 7 (.new 8 (.new 9 (.new 10 (.new 11 .done)))))))))))) (panFree_loopP (panFree_pure _ _ _)) (by kernel_rfl) (by kernel_rfl) (by kernel_rfl) ?_
          simp +contextual (maxSteps := 2000000) (disch := ((try unfold LIM at *); omega)) only [↓bcase_true, ↓bcase_false, WA, simprocAttr, wrap_i64, dV, oV, fV, List.length_map, d, pi, hf]
          refine DCall.pure w40 1000 (.new 7 (.new 8 (.new 9 (.new 10 (.new 11 .done))))) (by kernel_rfl) ?_
          generalize hr : getS (doS sl o) f.1 = r
          have key : f.1 ≠ o.2.1 → (o.1 ≠ 3 ∨ f.1 ≠ o.2.2) → r = (f.2, true) := fun h1 h2 => by rw [← hr, get_do h1 h2, get_mem asl (List.mem_of_getElem? hf)]
          simp +contextual (maxSteps := 2000000) (disch := ((try unfold LIM at *); omega)) only [↓bcase_true, ↓bcase_false, WA, simprocAttr, wrap_i64, dV, oV]
          refine DrawThen.of 1000 [] (.old 0 (.old 1 (.old 2 (.old 3 (.old 4 (.old 5 (.old 6 (.old 7 (.old 8 (.old 9 (.old 10 (.old 11 (.old 12 (.old 13 (.old 14 (.old 15 (.old 16 (.old 17 (.old 18 (.old 19 (.old 20 (.old 21 (.old 22 (.old 23 (.old 24 (.old 25 (.old 26 (.old 27 (.old 28 (.old 29 (.old 30 (.old 31 (.old 32 (.old 33 (.old 34 (.old 35 .done)))))))))))))))))))))))))))))))))))) (panFree_loopP (panFree_pure _ _ _)) (by kernel_rfl) (by kernel_rfl) (by kernel_rfl) ?_
          have fin : ∃ j, (j ≤ sl.length ∧ sl.length - j < sl.length - i) ∧ keepL [(6, V.pd (oV o)), (7, V.pd (dV f2 o2 q2)), (11, V.f 2 (List.map fV sl)), (17, V.s (Value.int IntKind.i64 ((i + 1 : Nat) : Int)))] = keepL [(6, V.pd (oV o)), (7, V.pd (dV f2 o2 q2)), (11, V.f 2 (List.map fV sl)), (17, V.s (Value.int IntKind.i64 j))] := ⟨i + 1, ⟨by omega, by omega⟩, rfl⟩
          simp only [oV, dV] at fin
          by_cases hA : f.1 = o.2.1
          · simp +contextual (maxSteps := 2000000) (disch := ((try unfold LIM at *); omega)) only [↓bcase_true, ↓bcase_false, WA, simprocAttr, wrap_i64, dV, oV, fV, List.length_map, d, pi, hf, hA, cast_succ]
            exact fin
          by_cases hB : o.1 = 3
          · have hB' : decide (o.1 = 3) = true := decide_eq_true hB
            by_cases hC : f.1 = o.2.2
            · have hC' : decide (f.1 = o.2.2) = true := decide_eq_true hC
              simp +contextual (maxSteps := 2000000) (disch := ((try unfold LIM at *); omega)) only [↓bcase_true, ↓bcase_false, WA, simprocAttr, wrap_i64, dV, oV, fV, List.length_map, d, pi, hf, hA, hB', hC', cast_succ]
              exact fin
            · rw [key hA (.inr hC)]
              simp +contextual (maxSteps := 2000000) (disch := ((try unfold LIM at *); omega)) only [↓bcase_true, ↓bcase_false, WA, simprocAttr, wrap_i64, dV, oV, fV, List.length_map, d, pi, hf, hA, hB', hC, cast_succ]
              exact fin
          · rw [key hA (.inl hB)]
            simp +contextual (maxSteps := 2000000) (disch := ((try unfold LIM at *); omega)) only [↓bcase_true, ↓bcase_false, WA, simprocAttr, wrap_i64, dV, oV, fV, List.length_map, d, pi, hf, hA, hB, cast_succ]
            exact fin
        · simp +contextual (maxSteps := 2000000) (disch := ((try unfold LIM at *); omega)) only [↓bcase_true, ↓bcase_false, WA, simprocAttr, wrap_i64, dV, oV, List.length_map, d]
          try intros
          try rfl
end Go.Proofs.Ytpcgnmoogjahbaa
/- part BD -/
set_option linter.unusedVariables false
set_option maxRecDepth 100000
namespace Go.Proofs.Ytpcgnmoogjahbaa
open Go Go.W Go.RowKit
theorem own0 : ownKnob Try.prog.godebug = none := by kernel_rfl
theorem laidOut0 : laidOutB Try.prog = true := by kernel_rfl
section
variable {H' : Type} {enc : TypeId × Value → H'} {W : World}
theorem c9 : Try.prog.cellsOf 9 = 1 := by kernel_rfl
theorem c3 : Try.prog.cellsOf 3 = 1 := by kernel_rfl
theorem c43 : Try.prog.cellsOf 43 = 1 := by kernel_rfl
theorem c44 : Try.prog.cellsOf 44 = 1 := by kernel_rfl
theorem opn_fl : Go.W.Opn enc Try.prog W 126 fun xs => ∃ f : Fl, xs = fV f := by
  refine (opn_struct (gs := [fun xs => ∃ s, xs = [.s (.string s)], fun xs => ∃ s, xs = [.s (.string s)]]) Try.underlying126 (by kernel_rfl) ⟨rfl, opn_str Try.underlying9, by simp only [c9], opn_str Try.underlying9, rfl⟩).mono fun xs g => ?_
  obtain ⟨_, _, rfl, ⟨s, rfl⟩, _, _, rfl, ⟨s', rfl⟩, rfl⟩ := g
  exact ⟨(s, s'), rfl⟩
theorem opn_op : Go.W.Opn enc Try.prog W 86 fun xs => ∃ o : Opn, xs = oV o := by
  refine (opn_struct (gs := [fun xs => ∃ n, xs = [.s (.int .i64 n)] ∧ (Lit.int .i64 n).wf = true, fun xs => ∃ s, xs = [.s (.string s)], fun xs => ∃ s, xs = [.s (.string s)]]) Try.underlying86 (by kernel_rfl) ⟨rfl, opn_int Try.underlying3, by simp only [c3], opn_str Try.underlying9, by simp only [c3, c9], opn_str Try.underlying9, rfl⟩).mono fun xs g => ?_
  obtain ⟨_, _, rfl, ⟨k, rfl, _⟩, _, _, rfl, ⟨s, rfl⟩, _, _, rfl, ⟨s', rfl⟩, rfl⟩ := g
  exact ⟨(k, s, s'), rfl⟩
theorem opn_bytes : Go.W.Opn enc Try.prog W 24 fun xs => ∃ l : List UInt8, xs = [.f 1 (l.map bV)] := by
  have e1 : Go.W.Opn enc Try.prog W 24 fun xs => ∃ els, xs = [.f 1 els] ∧ ∀ el ∈ els, ∃ x : UInt8, el = bV x := opn_slice (n := 0) Try.underlying24 (by kernel_rfl) ((opn_int Try.underlying5).mono fun xs ⟨n, e, w⟩ => by
    subst e
    have hw : 0 ≤ n ∧ n < 256 := by
      simp only [Lit.wf, IntKind.min, IntKind.max, IntKind.bits, IntKind.signed] at w
      simp at w; omega
    refine ⟨UInt8.ofNat n.toNat, ?_⟩
    have : (UInt8.ofNat n.toNat).toNat = n.toNat := by rw [UInt8.toNat_ofNat']; omega
    simp only [bV, this]
    congr 3; omega)
  refine e1.mono fun xs ⟨els, e, h⟩ => ?_
  obtain ⟨l, rfl⟩ := map_of h
  exact ⟨l, e⟩
theorem opn_disk : Go.W.Opn enc Try.prog W 46 fun xs => ∃ fl ol cap, xs = dV fl ol cap := by
  have e1 : Go.W.Opn enc Try.prog W 43 fun xs => ∃ els, xs = [.f 2 els] ∧ ∀ el ∈ els, ∃ f : Fl, el = fV f := opn_slice (n := 1) Try.underlying43 (by kernel_rfl) opn_fl
  have e2 : Go.W.Opn enc Try.prog W 44 fun xs => ∃ els, xs = [.f 3 els] ∧ ∀ el ∈ els, ∃ o : Opn, el = oV o := opn_slice (n := 2) Try.underlying44 (by kernel_rfl) opn_op
  refine (opn_struct (gs := [_, _, _]) Try.underlying46 (by kernel_rfl) ⟨rfl, e1, by simp only [c43], e2, by simp only [c43, c44], opn_int Try.underlying3, rfl⟩).mono fun xs g => ?_
  obtain ⟨_, _, rfl, ⟨els, rfl, h1⟩, _, _, rfl, ⟨els', rfl, h2⟩, _, _, rfl, ⟨n, rfl, _⟩, rfl⟩ := g
  obtain ⟨fl, rfl⟩ := map_of h1
  obtain ⟨ol, rfl⟩ := map_of h2
  exact ⟨fl, ol, n, rfl⟩
end
end Go.Proofs.Ytpcgnmoogjahbaa
