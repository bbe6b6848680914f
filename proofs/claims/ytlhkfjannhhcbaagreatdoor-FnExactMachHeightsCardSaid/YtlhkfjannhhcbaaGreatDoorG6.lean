/- What functions of the program answer, walked on the abstract layer, and closed facts of the program; the conditions stand in each theorem. -/
import Derived.Test.YtlhkfjannhhcbaaGreatDoorG5
import Derived.Test.YtlhkfjannhhcbaaGreatDoorRows
import Derived.WalkKit
import Derived.ProofKit
import Derived.OpenShut
import Derived.ShutString
import Derived.ChangeOld
import Derived.Below
import Derived.SizedLaws
import Derived.LaidMore
import Derived.ChangeVars
/- part N5 -/
set_option linter.unusedVariables false
set_option linter.unusedSimpArgs false
set_option maxRecDepth 100000
namespace Go.Proofs.YtlhkfjannhhcbaaGreatDoor
open Go Go.W Go.RowKit
def SpR (m : Img) (fuel n : Nat) (q : Did Fr) (res : Res) (h' : H) : Prop := ∃ rs es fr', rs.length = n ∧ es.length = n ∧ res = .ret (.tup []) ∧ match q.2 with
  | .ok fr2 => fr' = fr2 ∧ h' = [pB m fuel q.1 none rs es, fS fr']
  | .error e => h' = [pB m fuel q.1 (some e) rs es, fS fr']
section
variable {m : Img} {fuel n : Nat} {q : Did Fr}
theorem sp_ok {fr' : Fr} {mc' : Mc} {rs es : List Int} (r : H) (h1 : rs.length = n) (h2 : es.length = n) (e : q = (mc', .ok fr')) : Up 2 (SpR m fuel n q) (.ret (.tup [])) (pB m fuel mc' none rs es :: fS fr' :: r) := by
  subst e
  exact Up.gcF (.tup []) [] [] [0, 1] [pB m fuel mc' none rs es, fS fr'] (by simp) rfl ⟨.inl ⟨p_nr .., rfl⟩, .inl ⟨fS_nr _, rfl⟩, trivial⟩ rfl ⟨rs, es, fr', h1, h2, rfl, rfl, rfl⟩
theorem sp_err {fr' : Fr} {mc' : Mc} {rs es : List Int} {e : Stop} (r : H) (h1 : rs.length = n) (h2 : es.length = n) (hq : q = (mc', .error e)) : Up 2 (SpR m fuel n q) (.ret (.tup [])) (pB m fuel mc' (some e) rs es :: fS fr' :: r) := by
  subst hq
  exact Up.gcF (.tup []) [] [] [0, 1] [pB m fuel mc' (some e) rs es, fS fr'] (by simp) rfl ⟨.inl ⟨p_nr .., rfl⟩, .inl ⟨fS_nr _, rfl⟩, trivial⟩ rfl ⟨rs, es, fr', h1, h2, rfl, rfl⟩
end
section
variable {N n0 : Nat} {Q : QT} {k : List It} {τ : Tau} {h : H} {dst : Option Nat}
theorem CallThen.topT {f : Nat} {args args' : List V} {d : Option Nat} (idx : Nat) (hn : n0 ≤ idx) (hi : idx ≤ h.length) (dd i : Nat) (x : V) (hx : x = Go.W.frz idx dd h (τ i)) (ha : All2 (fun x x' => x' = x ∨ x' = Go.W.frz idx dd h x) args args') {m : Nat}
    (hc : CallThen C N n0 Q f args' d k (up i x τ) (killFrom idx h)) : CallThen C N n0 Q f args d k τ h :=
  CallThen.arr (Arr.top hn hi dd) ha (fun t => by
    by_cases e : t = i
    · subst e; right; rw [← hx]; simp [up]
    · left; simp [up, e]) hc
theorem all2_rfl : ∀ (l : List V), All2 (fun x x' : V => x' = x) l l
  | [] => trivial
  | _ :: l => ⟨rfl, all2_rfl l⟩
theorem CallThen.folded {f : Nat} {args : List V} {d : Option Nat} (fl : List (Nat × Nat × Nat)) (hF : H) (eF : folds h fl = hF) {m : Nat} (hc : CallThen C N n0 Q f args d k τ hF) : CallThen C N n0 Q f args d k τ h := by
  subst eF
  exact CallThen.arr (Arr.folds n0 fl h) (all2_rfl args) (fun _ => rfl) hc
theorem setAll01s (X Y X' Y' : Blk) (r : H) : setAll (X :: Y :: r) [0, 1] [X', Y'] = X' :: Y' :: r := by show setAll (X' :: Y' :: r) [] [] = _; rw [setAll_nil, List.append_nil]
theorem CallThen.pop83 {m0 : Img} {fuel : Nat} {mc : Mc} {o : Option Stop} {rs es : List Int} {fr : Fr} {c : Nat} (rest : H) (eh : h = pB m0 fuel mc o rs es :: fS fr :: rest) {args' : List V} (ha : args' = [.ptr 0 0 0, .ptr 1 0 0, .s (.int .i64 c)]) (hl : fr.stack.length ≤ 100) (hc : c ≤ 1000) (m : Nat)
    (hs : fr.stack.length < c → Run C N n0 m Q k (upo dst .z τ) (pB m0 fuel mc (stopO o (3, 0)) rs es :: fS fr :: rest))
    (hr : c ≤ fr.stack.length → ∀ cap, c ≤ cap → Run C N n0 m Q k (upo dst (.sl h.length 0 c cap) τ) (pB m0 fuel mc o rs es :: fS ⟨fr.pc, fr.stack.take (fr.stack.length - c), fr.slots⟩ :: (rest ++ [⟨(fr.stack.drop (fr.stack.length - c)).map valV, 3, cap, true⟩]))) : CallThen C N n0 Q 83 args' dst k τ h := by
  subst eh; subst ha
  refine CallThen.of m (CallsV.frameL (calls83 m0 fuel mc o rs es fr c hl hc) [0, 1] _ (by simp) ⟨.inl ⟨p_nr .., rfl⟩, .inl ⟨fS_nr _, rfl⟩, trivial⟩ rfl) fun res h' ⟨r, h1, q1, q2, q3, q4⟩ => ?_
  subst q3; subst q4
  unfold popS at q1
  by_cases e : fr.stack.length < c
  · rw [if_pos e] at q1
    obtain ⟨rfl, rfl⟩ := q1
    show Run _ _ _ _ _ _ _ (setAll _ _ [rnB _ (pB m0 fuel mc (stopO o (3, 0)) rs es), rnB _ (fS fr)])
    rw [rnB_p, rnB_fS, setAll01s]
    exact hs e
  · rw [if_neg e] at q1
    obtain ⟨cap, k1, rfl, rfl⟩ := q1
    have e1 : emb [0, 1] (pB m0 fuel mc o rs es :: fS fr :: rest).length 2 = (pB m0 fuel mc o rs es :: fS fr :: rest).length := by simp [emb]
    show Run _ _ _ _ _ _ (upo dst (.sl (emb [0, 1] (pB m0 fuel mc o rs es :: fS fr :: rest).length 2) 0 c cap) τ) (setAll _ _ [rnB _ (pB m0 fuel mc o rs es), rnB _ (fS ⟨fr.pc, fr.stack.take (fr.stack.length - c), fr.slots⟩), rnB _ ⟨(fr.stack.drop (fr.stack.length - c)).map valV, 3, cap, true⟩])
    rw [rnB_p, rnB_fS, rnB_vs, e1, setAll01]
    exact hr (by omega) cap k1
theorem CallThen.push84 {m0 : Img} {fuel : Nat} {mc : Mc} {o : Option Stop} {rs es : List Int} {fr : Fr} {v : Val} (rest : H) (eh : h = pB m0 fuel mc o rs es :: fS fr :: rest) {args' : List V} (ha : args' = [.ptr 0 0 0, .ptr 1 0 0, .agg (valV v)]) (hl : fr.stack.length ≤ 100) (m : Nat)
    (hs : pushM fr.stack v = none → Run C N n0 m Q k (upo dst (.tup []) τ) (pB m0 fuel mc (stopO o (3, 0)) rs es :: fS fr :: rest))
    (hr : ∀ st, pushM fr.stack v = some st → Run C N n0 m Q k (upo dst (.tup []) τ) (pB m0 fuel mc o rs es :: fS ⟨fr.pc, st, fr.slots⟩ :: rest)) : CallThen C N n0 Q 84 args' dst k τ h := by
  subst eh; subst ha
  have ev : ∀ ρ : Nat → Nat, (valV v).map (rnC ρ) = valV v := fun ρ => by simp only [valV, List.map_cons, List.map_nil, rowV_rn]; rfl
  refine CallThen.of m (CallsV.frameL (edit84 m0 fuel mc o rs es fr v hl) [0, 1] _ (by simp) ⟨.inl ⟨p_nr .., rfl⟩, .inl ⟨fS_nr _, rfl⟩, trivial⟩ (by simp only [List.map_cons, List.map_nil, rnV, rnQ, ev]; rfl)) fun res h' ⟨r, h1, ⟨q1, q1'⟩, q2, q3, q4⟩ => ?_
  subst q1; subst q1'; subst q3; subst q4
  cases e : pushM fr.stack v with
  | none =>
    show Run _ _ _ _ _ _ _ (setAll _ _ [rnB _ (pB m0 fuel mc (stopO o (3, 0)) rs es), rnB _ (fS fr)])
    rw [rnB_p, rnB_fS, setAll01s]
    exact hs e
  | some st =>
    show Run _ _ _ _ _ _ _ (setAll _ _ [rnB _ (pB m0 fuel mc o rs es), rnB _ (fS ⟨fr.pc, st, fr.slots⟩)])
    rw [rnB_p, rnB_fS, setAll01s]
    exact hr st e
end
theorem popsM_lt {st : List Val} {ks : List Int} (h : st.length < ks.length) : popsM st ks = none := by unfold popsM; rw [if_neg]; omega
theorem popsM_bad {st : List Val} {ks : List Int} (h : ¬ (st.drop (st.length - ks.length)).map (·.k) = ks) : popsM st ks = none := by unfold popsM; rw [if_neg]; exact fun q => h q.2
theorem popsM_good {st : List Val} {ks : List Int} (h1 : ks.length ≤ st.length) (h : (st.drop (st.length - ks.length)).map (·.k) = ks) : popsM st ks = some (st.drop (st.length - ks.length), st.take (st.length - ks.length)) := by unfold popsM; rw [if_pos ⟨h1, h⟩]
theorem spec88 (m : Img) (fuel n : Nat) (fr : Fr) (mc : Mc) (rs es : List Int) (a : Int) (hf : FrOk fr) (hm : McOk fuel mc) (hfu : fuel ≤ 400000) (hrs : rs.length = n) (hes : es.length = n) :
    CallsV C 88 [.ptr 0 0 0, .ptr 1 0 0, .s (.int .i64 a)] [pB m fuel mc none rs es, fS fr] (SpR m fuel n (primM a fr mc)) := by
  refine calls_of_run Tryz.func88 rfl (by kernel_rfl) (by kernel_rfl) (by simp) 1000 ?_
  by_cases c : 1 ≤ a ∧ a ≤ 14
  · obtain ⟨j, rfl, hj⟩ : ∃ j : Nat, a = ((j + 1 : Nat) : Int) ∧ j < 14 := ⟨(a - 1).toNat, by omega, by omega⟩
    have k1 : ¬ ((j + 1 : Nat) : Int) < 1 := by omega
    have k2 : ¬ (14 : Int) < ((j + 1 : Nat) : Int) := by omega
    have kj : (((j + 1 : Nat) : Int) - 1).toNat = j := by omega
    have kj2 : ((j + 1 : Nat) : Int) - 1 = j := by omega
    have j0 : (0 : Int) ≤ j := by omega
    have j1 : (j : Int) < 16 := by omega
    have hpv := prims_at j hj
    have hl16 : (prims16.map sV).length = 16 := by decide
    have w119 := walk119 j hj
    have hk3 := (primT_ks j hj).1
    simp +contextual (maxSteps := 2000000) (disch := ((try unfold LIM at *); omega)) only [↓bcT, ↓bcF, WA, simprocAttr, wrI, k1, k2]
    refine CallThen.pure pure118 1000 ?_
    simp +contextual (maxSteps := 2000000) (disch := ((try unfold LIM at *); omega)) only [↓bcT, ↓bcF, WA, simprocAttr, wrI, kj2, j0, j1, hpv, hl16]
    refine CallThen.pure w119 1000 ?_
    simp +contextual (maxSteps := 2000000) (disch := ((try unfold LIM at *); omega)) only [↓bcT, ↓bcF, WA, simprocAttr, wrI]
    refine CallThen.pop83 _ rfl rfl hf.1 (by omega) 1000 (fun hlt => ?_) (fun hle cap hcap => ?_)
    · have e : primM ((j + 1 : Nat) : Int) fr mc = wrongM mc := by unfold primM; rw [if_pos c, kj, popsM_lt hlt]
      rw [e]
      simp +contextual (maxSteps := 2000000) (disch := ((try unfold LIM at *); omega)) only [↓bcT, ↓bcF, WA, simprocAttr, wrI, pB, stopO, Option.isSome_some]
      refine CallThen.stop (m0 := m) (fuel := fuel) (mc := mc) (o := some (3, 0)) (rs := rs) (es := es) _ rfl rfl 1000 ?_
      simp +contextual (maxSteps := 2000000) (disch := ((try unfold LIM at *); omega)) only [↓bcT, ↓bcF, WA, simprocAttr, wrI, stopO]
      exact sp_err (fr' := fr) [] hrs hes rfl
    · simp +contextual (maxSteps := 2000000) (disch := ((try unfold LIM at *); omega)) only [↓bcT, ↓bcF, WA, simprocAttr, wrI, pB, Option.isSome_none]
      have hgood := popsM_good (st := fr.stack) (ks := (primT j).1) hle
      have hbad := popsM_bad (st := fr.stack) (ks := (primT j).1)
      have hvs : ∀ v ∈ fr.stack.drop (fr.stack.length - (primT j).1.length), VOk v := fun v hv => hf.2.1 v (List.mem_of_mem_drop hv)
      have hvl : (fr.stack.drop (fr.stack.length - (primT j).1.length)).length = (primT j).1.length := by simp; omega
      have hsl : (fr.stack.take (fr.stack.length - (primT j).1.length)).length ≤ 100 := by have := hf.1; simp; omega
      generalize fr.stack.drop (fr.stack.length - (primT j).1.length) = vs at *
      generalize fr.stack.take (fr.stack.length - (primT j).1.length) = st at *
      have w120 := walk120 j hj vs hvl
      refine CallThen.topT 2 (by simp) (by simp) 6 7 (.f 3 (vs.map valV)) ?_ (args' := [.s (.string (primW j)), .f 3 (vs.map valV)]) ⟨.inl rfl, .inr ?_, trivial⟩ (m := 0) ?_
      · simp +contextual (maxSteps := 2000000) (disch := ((try unfold LIM at *); omega)) only [↓bcT, ↓bcF, WA, simprocAttr, wrI, List.length_map, hvl]
        rw [List.take_of_length_le (by simp [hvl]), valV_frz]
      · simp +contextual (maxSteps := 2000000) (disch := ((try unfold LIM at *); omega)) only [↓bcT, ↓bcF, WA, simprocAttr, wrI, List.length_map, hvl]
        rw [List.take_of_length_le (by simp [hvl]), valV_frz]
      by_cases c2 : vs.map (·.k) = (primT j).1
      · rw [decide_eq_true c2] at w120
        have w121 := walk121 j hj vs c2 hvs
        have ep : primM ((j + 1 : Nat) : Int) fr mc = if 0 < (primE j vs).2 then (mc, .error (2, (primE j vs).2))
            else optM ⟨mc.steps, if j = 13 then mc.out ++ [(primE j vs).1.n] else mc.out, mc.high⟩ fr (pushM st (primE j vs).1) := by
          have e14 : ∀ (α : Type) (x y : α), (if ((j + 1 : Nat) : Int) = 14 then x else y) = if j = 13 then x else y := fun α x y => by
            by_cases q : j = 13
            · rw [if_pos (by omega), if_pos q]
            · rw [if_neg (by omega), if_neg q]
          unfold primM
          rw [if_pos c, kj, hgood c2]
          simp only [e14]
        rw [ep]
        refine CallThen.pure w120 1000 ?_
        simp +contextual (maxSteps := 2000000) (disch := ((try unfold LIM at *); omega)) only [↓bcT, ↓bcF, WA, simprocAttr, wrI, killFrom_eq]
        refine CallThen.pure w121 1000 ?_
        by_cases c3 : 0 < (primE j vs).2
        · rw [if_pos c3]
          simp +contextual (maxSteps := 2000000) (disch := ((try unfold LIM at *); omega)) only [↓bcT, ↓bcF, WA, simprocAttr, wrI, valV, rowV_cellOk, rowV_nr, rowV_rn, c3]
          refine CallThen.stop (m0 := m) (fuel := fuel) (mc := mc) (o := none) (rs := rs) (es := es) _ rfl rfl 1000 ?_
          simp +contextual (maxSteps := 2000000) (disch := ((try unfold LIM at *); omega)) only [↓bcT, ↓bcF, WA, simprocAttr, wrI, stopO]
          exact sp_err (fr' := ⟨fr.pc, st, fr.slots⟩) (e := (2, (primE j vs).2)) _ hrs hes rfl
        · rw [if_neg c3]
          by_cases c4 : j = 13
          · subst c4
            have hpw : primW 13 = ⟨#[112, 114, 105, 110, 116]⟩ := rfl
            rw [if_pos rfl]
            have ol := hm.2.1
            have sl := hm.1
            have hn : nrs (mc.out.map iV ++ [[V.s (.int .i64 (primE 13 vs).1.n)]]) = true := by
              have := nrs_map iV_nr (mc.out ++ [(primE 13 vs).1.n]); simpa [iV] using this
            simp +contextual (maxSteps := 2000000) (disch := ((try unfold LIM at *); omega)) only [↓bcT, ↓bcF, WA, simprocAttr, wrI, valV, rowV_cellOk, rowV_nr, rowV_rn, c3, hpw]
            refine DrawThen.of 1000 [0] (.old 0 (.old 1 (.old 2 (.old 3 (.old 4 (.old 6 (.old 7 (.or 5 (.go 8 (.go 9 (.old 10 (.old 11 (.old 12 (.go 13 .done)))))) (.go 8 (.go 5 (.go 9 (.old 10 (.old 11 (.old 12 (.go 13 .done))))))))))))))) (panFree_body _ _) (by kernel_rfl) (by kernel_rfl) (by kernel_rfl) ?_
            simp +contextual (maxSteps := 2000000) (disch := ((try unfold LIM at *); omega)) only [↓bcT, ↓bcF, WA, simprocAttr, wrI, List.length_map, rowV_cellOk, rowV_nr, rowV_rn]
            repeat' apply And.intro
            all_goals
              intro cap2 hc2
              refine ⟨⟨by omega, by unfold LIM; omega⟩, fun cap' h1 _ => ?_⟩
              have hn2 : nrs (mc.out.map iV ++ [iV (primE 13 vs).1.n]) = true := hn
              have hl7 : (mc.out.map iV ++ [[V.s (.int .i64 (primE 13 vs).1.n)]]).length = mc.out.length + 1 := by simp
              have hmap : mc.out.map iV ++ [[V.s (.int .i64 (primE 13 vs).1.n)]] = (mc.out ++ [(primE 13 vs).1.n]).map iV := by simp [iV]
              first
                | (refine CallThen.folded [(0, 0, 5)] [pB m fuel ⟨mc.steps, mc.out ++ [(primE 13 vs).1.n], mc.high⟩ none rs es, fS ⟨fr.pc, st, fr.slots⟩, .dead, ⟨[valV (primE 13 vs).1], 3, 1, true⟩, .dead, ⟨[[V.s (.int .i64 (primE 13 vs).1.n)]], 1, 1, true⟩, .dead] ?e (m := 0) ?_
                   case e => simp [folds, foldC, foldK, rdC, rdB, refB, ownOf, elsB, wrH, wrB, wrE, wrL, shrinks, shr1, gcL, hn, hn2, hl7, hmap, pB, valV]; done)
                | (refine CallThen.folded [(0, 0, 5)] [pB m fuel ⟨mc.steps, mc.out ++ [(primE 13 vs).1.n], mc.high⟩ none rs es, fS ⟨fr.pc, st, fr.slots⟩, .dead, ⟨[valV (primE 13 vs).1], 3, 1, true⟩, ⟨[[V.s (.int .i64 (primE 13 vs).1.n)]], 1, 1, true⟩, .dead, .dead] ?e (m := 0) ?_
                   case e => simp [folds, foldC, foldK, rdC, rdB, refB, ownOf, elsB, wrH, wrB, wrE, wrL, shrinks, shr1, gcL, hn, hn2, hl7, hmap, pB, valV]; done)
              refine CallThen.push84 (m0 := m) (fuel := fuel) (mc := ⟨mc.steps, mc.out ++ [(primE 13 vs).1.n], mc.high⟩) (o := none) (rs := rs) (es := es) (fr := ⟨fr.pc, st, fr.slots⟩) (v := (primE 13 vs).1) _ rfl rfl hsl 1000 (fun hq => ?_) (fun st' hq => ?_)
              · simp +contextual (maxSteps := 2000000) (disch := ((try unfold LIM at *); omega)) only [↓bcT, ↓bcF, WA, simprocAttr, wrI, stopO]
                exact sp_err (fr' := ⟨fr.pc, st, fr.slots⟩) _ hrs hes (optM_none hq)
              · simp +contextual (maxSteps := 2000000) (disch := ((try unfold LIM at *); omega)) only [↓bcT, ↓bcF, WA, simprocAttr, wrI]
                exact sp_ok (fr' := ⟨fr.pc, st', fr.slots⟩) _ hrs hes (optM_some hq)
          · have hpw : ¬ primW j = ⟨#[112, 114, 105, 110, 116]⟩ := primW_ne j hj c4
            rw [if_neg c4]
            simp +contextual (maxSteps := 2000000) (disch := ((try unfold LIM at *); omega)) only [↓bcT, ↓bcF, WA, simprocAttr, wrI, valV, rowV_cellOk, rowV_nr, rowV_rn, c3, hpw]
            refine CallThen.push84 (m0 := m) (fuel := fuel) (mc := mc) (o := none) (rs := rs) (es := es) (fr := ⟨fr.pc, st, fr.slots⟩) (v := (primE j vs).1) _ rfl rfl hsl 1000 (fun hq => ?_) (fun st' hq => ?_)
            · simp +contextual (maxSteps := 2000000) (disch := ((try unfold LIM at *); omega)) only [↓bcT, ↓bcF, WA, simprocAttr, wrI, stopO]
              exact sp_err (fr' := ⟨fr.pc, st, fr.slots⟩) _ hrs hes (optM_none hq)
            · simp +contextual (maxSteps := 2000000) (disch := ((try unfold LIM at *); omega)) only [↓bcT, ↓bcF, WA, simprocAttr, wrI]
              exact sp_ok (fr' := ⟨fr.pc, st', fr.slots⟩) _ hrs hes (optM_some hq)
      · rw [decide_eq_false c2] at w120
        have e : primM ((j + 1 : Nat) : Int) fr mc = wrongM mc := by unfold primM; rw [if_pos c, kj, hbad c2]
        rw [e]
        refine CallThen.pure w120 1000 ?_
        simp +contextual (maxSteps := 2000000) (disch := ((try unfold LIM at *); omega)) only [↓bcT, ↓bcF, WA, simprocAttr, wrI, killFrom_eq]
        refine CallThen.stop (m0 := m) (fuel := fuel) (mc := mc) (o := none) (rs := rs) (es := es) _ rfl rfl 1000 ?_
        simp +contextual (maxSteps := 2000000) (disch := ((try unfold LIM at *); omega)) only [↓bcT, ↓bcF, WA, simprocAttr, wrI, stopO]
        exact sp_err (fr' := ⟨fr.pc, st, fr.slots⟩) _ hrs hes rfl
  · have e : primM a fr mc = wrongM mc := by unfold primM; rw [if_neg c]
    rw [e]
    by_cases k1 : a < 1
    · simp +contextual (maxSteps := 2000000) (disch := ((try unfold LIM at *); omega)) only [↓bcT, ↓bcF, WA, simprocAttr, wrI, k1]
      refine CallThen.stop _ rfl rfl 1000 ?_
      simp +contextual (maxSteps := 2000000) (disch := ((try unfold LIM at *); omega)) only [↓bcT, ↓bcF, WA, simprocAttr, wrI, stopO]
      exact sp_err (fr' := fr) [] hrs hes rfl
    · have k2 : (14 : Int) < a := by omega
      simp +contextual (maxSteps := 2000000) (disch := ((try unfold LIM at *); omega)) only [↓bcT, ↓bcF, WA, simprocAttr, wrI, k1, k2]
      refine CallThen.stop _ rfl rfl 1000 ?_
      simp +contextual (maxSteps := 2000000) (disch := ((try unfold LIM at *); omega)) only [↓bcT, ↓bcF, WA, simprocAttr, wrI, stopO]
      exact sp_err (fr' := fr) [] hrs hes rfl
end Go.Proofs.YtlhkfjannhhcbaaGreatDoor
/- part N6 -/
set_option linter.unusedVariables false
set_option linter.unusedSimpArgs false
set_option maxRecDepth 100000
namespace Go.Proofs.YtlhkfjannhhcbaaGreatDoor
open Go Go.W Go.RowKit
section
variable {m : Img} {fuel n : Nat} {q : Did Fr}
theorem sp_okF {fr' : Fr} {mc' : Mc} {rs es : List Int} {h : H} (fl : List (Nat × Nat × Nat)) (r : H) (eF : folds h fl = pB m fuel mc' none rs es :: fS fr' :: r) (h1 : rs.length = n) (h2 : es.length = n) (e : q = (mc', .ok fr')) : Up 2 (SpR m fuel n q) (.ret (.tup [])) h := by
  subst e
  refine Up.gcF (.tup []) [] fl [0, 1] [pB m fuel mc' none rs es, fS fr'] (by simp) rfl ?_ rfl ⟨rs, es, fr', h1, h2, rfl, rfl, rfl⟩
  rw [shrinks_nil, eF]
  exact ⟨.inl ⟨p_nr .., rfl⟩, .inl ⟨fS_nr _, rfl⟩, trivial⟩
end
section
variable {D : Cx} {N n0 : Nat} {Q : QT} {k : List It} {τ : Tau} {h : H} {dst : Option Nat}
theorem DCall.push84F {h0 : H} {exc : List Nat} {ops : Array Oper} {fu : Nat} {listed : Array Bool} {nw : List Nat} {m0 : Img} {fuel : Nat} {mc : Mc} {o : Option Stop} {rs es : List Int} {fr : Fr} {v : Val} (fl : List (Nat × Nat × Nat)) (rest : H) (eF : folds (hide h0 exc h) fl = pB m0 fuel mc o rs es :: fS fr :: rest) {args' : List V} (ha : args' = [.ptr 0 0 0, .ptr 1 0 0, .agg (valV v)]) (hl : fr.stack.length ≤ 100) (m : Nat) (td : TD) (hd : drawOk ops [] listed td = true)
    (hs : pushM fr.stack v = none → RunD C N n0 m Q k h0 exc ops fu listed td (addN dst nw) (upo dst (.tup []) τ) (show_ h0 exc h (pB m0 fuel mc (stopO o (3, 0)) rs es :: fS fr :: rest)))
    (hr : ∀ st, pushM fr.stack v = some st → RunD C N n0 m Q k h0 exc ops fu listed td (addN dst nw) (upo dst (.tup []) τ) (show_ h0 exc h (pB m0 fuel mc o rs es :: fS ⟨fr.pc, st, fr.slots⟩ :: rest))) : DCall C N n0 Q h0 exc ops fu listed k 84 args' dst nw τ h := by
  subst ha
  have ev : ∀ ρ : Nat → Nat, (valV v).map (rnC ρ) = valV v := fun ρ => by simp only [valV, List.map_cons, List.map_nil, rowV_rn]; rfl
  refine DCall.of m td hd (CallsV.fold [] fl (CallsV.frameL (edit84 m0 fuel mc o rs es fr v hl) [0, 1] _ (by simp) (by rw [shrinks_nil, eF]; exact ⟨.inl ⟨p_nr .., rfl⟩, .inl ⟨fS_nr _, rfl⟩, trivial⟩) (by simp only [List.map_cons, List.map_nil, rnV, rnQ, ev]; rfl))) fun res h' ⟨r, h1, ⟨q1, q1'⟩, q2, q3, q4⟩ => ?_
  subst q1; subst q1'; subst q3; subst q4
  rw [shrinks_nil, eF]
  cases e : pushM fr.stack v with
  | none =>
    show RunD _ _ _ _ _ _ _ _ _ _ _ _ _ _ (show_ _ _ _ (setAll _ _ [rnB _ (pB m0 fuel mc (stopO o (3, 0)) rs es), rnB _ (fS fr)]))
    rw [rnB_p, rnB_fS, setAll01s]
    exact hs e
  | some st =>
    show RunD _ _ _ _ _ _ _ _ _ _ _ _ _ _ (show_ _ _ _ (setAll _ _ [rnB _ (pB m0 fuel mc o rs es), rnB _ (fS ⟨fr.pc, st, fr.slots⟩)]))
    rw [rnB_p, rnB_fS, setAll01s]
    exact hr st e
end
theorem fold1 {els : List (List V)} {X B : Blk} {y : V} {len cap : Nat} (hl : els.length = len) (hn : nrs els = true) (r : H) :
    folds (X :: ⟨[[y, .sl 3 0 len cap]], 2, 1, true⟩ :: B :: ⟨els, 3, cap, true⟩ :: r) [(1, 0, 1)] = X :: ⟨[[y, .l 3 els]], 2, 1, true⟩ :: B :: Blk.dead :: r := by
  simp [folds, foldC, foldK, rdC, rdB, refB, ownOf, elsB, wrH, wrB, wrE, wrL, shrinks, shr1, gcL, hl, hn]
theorem fold1_5 {els : List (List V)} {X B C D : Blk} {y : V} {len cap : Nat} (hl : els.length = len) (hn : nrs els = true) (r : H) :
    folds (X :: ⟨[[y, .sl 5 0 len cap]], 2, 1, true⟩ :: B :: C :: D :: ⟨els, 3, cap, true⟩ :: r) [(1, 0, 1)] = X :: ⟨[[y, .l 3 els]], 2, 1, true⟩ :: B :: C :: D :: Blk.dead :: r := by
  simp [folds, foldC, foldK, rdC, rdB, refB, ownOf, elsB, wrH, wrB, wrE, wrL, shrinks, shr1, gcL, hl, hn]
theorem spec87 (m : Img) (fuel n : Nat) (fr : Fr) (mc : Mc) (rs es : List Int) (o : Int) (a : Nat) (ho : o = 3 ∨ o = 4) (hf : FrOk fr) (hs : fr.slots.length ≤ 1000) (hrs : rs.length = n) (hes : es.length = n) :
    CallsV C 87 [.ptr 0 0 0, .ptr 1 0 0, .agg (insV ⟨o, a⟩)] [pB m fuel mc none rs es, fS fr] (SpR m fuel n (if o = 3 then optM mc fr (loadM fr a) else toM mc (keepM fr a))) := by
  refine calls_of_run Tryz.func87 rfl (by kernel_rfl) (by kernel_rfl) (by simp) 1000 ?_
  have eF := fun cap r => fold1 (X := pB m fuel mc none rs es) (B := ⟨[insV ⟨o, a⟩], 2, 1, true⟩) (els := fr.slots.map valV) (y := .l 3 (fr.stack.map valV)) (len := fr.slots.length) (cap := cap) (by simp) (nrs_map valV_nr _) r
  by_cases ha : fr.slots.length ≤ a
  · have ha' : (fr.slots.length : Int) ≤ a := by omega
    have e : (if o = 3 then optM mc fr (loadM fr a) else toM mc (keepM fr a)) = wrongM mc := by
      split
      · unfold loadM; rw [List.getElem?_eq_none ha]; rfl
      · unfold keepM
        split
        · rfl
        · rw [if_neg (by omega)]; rfl
    rw [e]
    simp +contextual (maxSteps := 2000000) (disch := ((try unfold LIM at *); omega)) only [↓bcT, ↓bcF, WA, simprocAttr, wrI, insV]
    refine DrawThen.of 1000 [1] (.old 0 (.old 1 (.old 2 (.old 3 (.old 4 (.go 5 (.new 6 (.new 7 .done)))))))) (panFree_body _ _) (by kernel_rfl) (by kernel_rfl) (by kernel_rfl) ?_
    simp +contextual (maxSteps := 2000000) (disch := ((try unfold LIM at *); omega)) only [↓bcT, ↓bcF, WA, simprocAttr, wrI, fS, List.length_map, ha']
    repeat' apply And.intro
    all_goals
      intro cap hc
      refine CallThen.folded [(1, 0, 1)] _ (eF cap []) (m := 0) ?_
      refine CallThen.stop (m0 := m) (fuel := fuel) (mc := mc) (o := none) (rs := rs) (es := es) _ rfl rfl 1000 ?_
      simp +contextual (maxSteps := 2000000) (disch := ((try unfold LIM at *); omega)) only [↓bcT, ↓bcF, WA, simprocAttr, wrI, stopO]
      exact sp_err (fr' := fr) _ hrs hes rfl
  · have ha' : ¬ (fr.slots.length : Int) ≤ a := by omega
    have pa : (0 : Int) ≤ a := by omega
    have pa2 : (a : Int) < fr.slots.length := by omega
    obtain ⟨w, hw⟩ : ∃ w, fr.slots[a]? = some w := ⟨fr.slots[a]'(by omega), List.getElem?_eq_getElem (by omega)⟩
    have hwv : (fr.slots.map valV)[a]? = some (valV w) := by rw [List.getElem?_map, hw]; rfl
    simp only [valV] at hwv
    rcases ho with rfl | rfl
    · rw [if_pos rfl]
      simp +contextual (maxSteps := 2000000) (disch := ((try unfold LIM at *); omega)) only [↓bcT, ↓bcF, WA, simprocAttr, wrI, insV]
      refine DrawThen.of 1000 [1] (.old 0 (.old 1 (.old 2 (.old 3 (.old 4 (.go 5 (.new 6 (.new 7 .done)))))))) (panFree_body _ _) (by kernel_rfl) (by kernel_rfl) (by kernel_rfl) ?_
      simp +contextual (maxSteps := 2000000) (disch := ((try unfold LIM at *); omega)) only [↓bcT, ↓bcF, WA, simprocAttr, wrI, fS, List.length_map, ha']
      repeat' apply And.intro
      all_goals
        intro cap hc
      by_cases c : w.k = 0
      · have el : loadM fr a = none := by unfold loadM; rw [hw]; simp [c]
        rw [el]
        refine DrawThen.of 1000 [] (.old 0 (.old 1 (.old 2 (.old 3 (.old 4 (.old 5 (.old 6 (.old 7 (.old 8 (.old 9 .done)))))))))) (panFree_body _ _) (by kernel_rfl) (by kernel_rfl) (by kernel_rfl) ?_
        simp +contextual (maxSteps := 2000000) (disch := ((try unfold LIM at *); omega)) only [↓bcT, ↓bcF, WA, simprocAttr, wrI, List.length_map, pa, pa2, hwv, c]
        refine CallThen.folded [(1, 0, 1)] _ (eF cap []) (m := 0) ?_
        refine CallThen.stop (m0 := m) (fuel := fuel) (mc := mc) (o := none) (rs := rs) (es := es) _ rfl rfl 1000 ?_
        simp +contextual (maxSteps := 2000000) (disch := ((try unfold LIM at *); omega)) only [↓bcT, ↓bcF, WA, simprocAttr, wrI, stopO]
        exact sp_err (fr' := fr) _ hrs hes rfl
      · have el : loadM fr a = pushM fr.stack w := by unfold loadM; rw [hw]; simp [c]
        rw [el]
        refine DrawThen.of 1000 [] (.old 0 (.old 1 (.old 2 (.old 3 (.old 4 (.old 5 (.old 6 (.old 7 (.old 8 (.old 9 .done)))))))))) (panFree_body _ _) (by kernel_rfl) (by kernel_rfl) (by kernel_rfl) ?_
        simp +contextual (maxSteps := 2000000) (disch := ((try unfold LIM at *); omega)) only [↓bcT, ↓bcF, WA, simprocAttr, wrI, List.length_map, pa, pa2, hwv, c]
        have eF2 := fold1 (X := pB m fuel mc none rs es) (B := .dead) (els := fr.slots.map valV) (y := .l 3 (fr.stack.map valV)) (len := fr.slots.length) (cap := cap) (by simp) (nrs_map valV_nr _) []
        cases hq : pushM fr.stack w with
        | none =>
          refine DrawThen.of 1000 [0, 1, 3] (.old 0 (.old 1 (.old 2 (.old 3 (.old 4 (.old 6 (.old 7 (.go 5 (.new 8 (.go 9 (.go 10 .done))))))))))) (panFree_body _ _) (by kernel_rfl) (by kernel_rfl) (by kernel_rfl) ?_
          simp +contextual (maxSteps := 2000000) (disch := ((try unfold LIM at *); omega)) only [↓bcT, ↓bcF, WA, simprocAttr, wrI, List.length_map, pa, pa2, hwv, rowV_cellOk, rowV_nr, rowV_rn]
          refine DCall.push84F (m0 := m) (fuel := fuel) (mc := mc) (o := none) (rs := rs) (es := es) (fr := fr) (v := w) [(1, 0, 1)] _ (by exact eF2) rfl hf.1 1000 .done (by kernel_rfl) (fun _ => ?_) (fun st' q => by rw [hq] at q; cases q)
          simp +contextual (maxSteps := 2000000) (disch := ((try unfold LIM at *); omega)) only [↓bcT, ↓bcF, WA, simprocAttr, wrI, stopO]
          try simp +contextual (maxSteps := 2000000) (disch := ((try unfold LIM at *); omega)) only [↓bcT, ↓bcF, WA, simprocAttr, wrI, List.length_map, pa, pa2, hwv, rowV_cellOk, rowV_nr, rowV_rn]
          exact sp_err (fr' := fr) _ hrs hes rfl
        | some st' =>
          refine DrawThen.of 1000 [0, 1, 3] (.old 0 (.old 1 (.old 2 (.old 3 (.old 4 (.old 6 (.old 7 (.go 5 (.new 8 (.go 9 (.go 10 .done))))))))))) (panFree_body _ _) (by kernel_rfl) (by kernel_rfl) (by kernel_rfl) ?_
          simp +contextual (maxSteps := 2000000) (disch := ((try unfold LIM at *); omega)) only [↓bcT, ↓bcF, WA, simprocAttr, wrI, List.length_map, pa, pa2, hwv, rowV_cellOk, rowV_nr, rowV_rn]
          refine DCall.push84F (m0 := m) (fuel := fuel) (mc := mc) (o := none) (rs := rs) (es := es) (fr := fr) (v := w) [(1, 0, 1)] _ (by exact eF2) rfl hf.1 1000 .done (by kernel_rfl) (fun q => by rw [hq] at q; cases q) (fun st2 q => ?_)
          rw [hq] at q; cases q
          simp +contextual (maxSteps := 2000000) (disch := ((try unfold LIM at *); omega)) only [↓bcT, ↓bcF, WA, simprocAttr, wrI]
          try simp +contextual (maxSteps := 2000000) (disch := ((try unfold LIM at *); omega)) only [↓bcT, ↓bcF, WA, simprocAttr, wrI, List.length_map, pa, pa2, hwv, rowV_cellOk, rowV_nr, rowV_rn]
          exact sp_ok (fr' := ⟨fr.pc, st', fr.slots⟩) _ hrs hes rfl
    · have e0 : (if (4 : Int) = 3 then optM mc fr (loadM fr a) else toM mc (keepM fr a)) = toM mc (keepM fr a) := rfl
      rw [e0]
      simp +contextual (maxSteps := 2000000) (disch := ((try unfold LIM at *); omega)) only [↓bcT, ↓bcF, WA, simprocAttr, wrI, insV]
      refine DrawThen.of 1000 [1] (.old 0 (.old 1 (.old 2 (.old 3 (.old 4 (.go 5 (.new 6 (.new 7 .done)))))))) (panFree_body _ _) (by kernel_rfl) (by kernel_rfl) (by kernel_rfl) ?_
      simp +contextual (maxSteps := 2000000) (disch := ((try unfold LIM at *); omega)) only [↓bcT, ↓bcF, WA, simprocAttr, wrI, fS, List.length_map, ha']
      repeat' apply And.intro
      all_goals
        intro cap hc
      refine CallThen.folded [(1, 0, 1)] _ (eF cap []) (m := 0) ?_
      refine CallThen.pop83 (m0 := m) (fuel := fuel) (mc := mc) (o := none) (rs := rs) (es := es) (fr := fr) (c := 1) _ rfl rfl hf.1 (by omega) 1000 (fun hlt => ?_) (fun hle cap hcap => ?_)
      · have ek : keepM fr a = none := by unfold keepM; rw [if_pos (List.length_eq_zero_iff.1 (by omega))]
        rw [ek]
        simp +contextual (maxSteps := 2000000) (disch := ((try unfold LIM at *); omega)) only [↓bcT, ↓bcF, WA, simprocAttr, wrI, stopO, pB, Option.isSome_some]
        exact sp_err (fr' := fr) _ hrs hes rfl
      · simp +contextual (maxSteps := 2000000) (disch := ((try unfold LIM at *); omega)) only [↓bcT, ↓bcF, WA, simprocAttr, wrI, pB, Option.isSome_none]
        obtain ⟨l, v, hst⟩ : ∃ l v, fr.stack = l ++ [v] := by
          rcases List.eq_nil_or_concat fr.stack with q | ⟨l, v, q⟩
          · rw [q] at hle; simp at hle
          · exact ⟨l, v, by simpa using q⟩
        have hd1 : List.drop (fr.stack.length - 1) fr.stack = [v] := by rw [hst]; simp
        have ht1 : List.take (fr.stack.length - 1) fr.stack = l := by rw [hst]; simp
        have ek : keepM fr a = some ⟨fr.pc, l, fr.slots.set a v⟩ := by
          unfold keepM; rw [hst]; simp; omega
        rw [ek, hd1, ht1]
        have hset : (fr.slots.map valV).set a (valV v) = (fr.slots.set a v).map valV := by rw [List.map_set]
        simp only [valV] at hset
        refine DrawThen.of 1000 [1] (.old 0 (.old 1 (.old 2 (.old 4 (.old 5 (.old 6 (.old 7 (.old 8 (.go 3 (.new 9 (.go 10 .done))))))))))) (panFree_body _ _) (by kernel_rfl) (by kernel_rfl) (by kernel_rfl) ?_
        simp +contextual (maxSteps := 2000000) (disch := ((try unfold LIM at *); omega)) only [↓bcT, ↓bcF, WA, simprocAttr, wrI, fS, insV, List.length_map, pa, pa2, hwv, hset, valV, List.map_cons, List.map_nil, rowV_cellOk, rowV_nr, rowV_rn]
        repeat' apply And.intro
        all_goals
          intro cap3 hc3
          exact sp_okF (fr' := ⟨fr.pc, l, fr.slots.set a v⟩) [(1, 0, 1)] _ (fold1_5 (X := pB m fuel mc none rs es) (by simp) (nrs_map valV_nr _) _) hrs hes rfl
end Go.Proofs.YtlhkfjannhhcbaaGreatDoor
/- part N7 -/
set_option linter.unusedVariables false
set_option linter.unusedSimpArgs false
set_option maxRecDepth 100000
namespace Go.Proofs.YtlhkfjannhhcbaaGreatDoor
open Go Go.W Go.RowKit
theorem rep_kinds {vs : List Val} {a : Nat} (hl : vs.length = a) : vs.map (·.k) = List.replicate a 1 ↔ ∀ v ∈ vs, v.k = 1 := by
  subst hl
  constructor
  · intro h v hv
    have : v.k ∈ vs.map (·.k) := List.mem_map_of_mem hv
    rw [h] at this
    exact List.eq_of_mem_replicate this
  · intro h
    rw [List.eq_replicate_iff]
    refine ⟨by simp, fun x hx => ?_⟩
    obtain ⟨v, hv, rfl⟩ := List.mem_map.1 hx
    exact h v hv
theorem spec90 (m : Img) (fuel n : Nat) (fr : Fr) (mc : Mc) (rs es : List Int) (a : Nat) (ha : a ≤ 1000) (hf : FrOk fr) (hrs : rs.length = n) (hes : es.length = n) :
    CallsV C 90 [.ptr 0 0 0, .ptr 1 0 0, .s (.int .i64 a)] [pB m fuel mc none rs es, fS fr] (SpR m fuel n (optM mc fr (rowM fr a))) := by
  refine calls_of_run Tryz.func90 rfl (by kernel_rfl) (by kernel_rfl) (by simp) 1000 ?_
  simp +contextual (maxSteps := 2000000) (disch := ((try unfold LIM at *); omega)) only [↓bcT, ↓bcF, WA, simprocAttr, wrI]
  refine CallThen.pop83 (m0 := m) (fuel := fuel) (mc := mc) (o := none) (rs := rs) (es := es) (fr := fr) (c := a) _ rfl rfl hf.1 ha 1000 (fun hlt => ?_) (fun hle cap hcap => ?_)
  · have e : rowM fr a = none := by
      unfold rowM
      split
      · rfl
      · rw [popsM_lt (by simpa using hlt)]
    rw [e]
    simp +contextual (maxSteps := 2000000) (disch := ((try unfold LIM at *); omega)) only [↓bcT, ↓bcF, WA, simprocAttr, wrI, stopO, pB, Option.isSome_some]
    refine LoopThen.zero 1000 1000 ?_
    simp +contextual (maxSteps := 2000000) (disch := ((try unfold LIM at *); omega)) only [↓bcT, ↓bcF, WA, simprocAttr, wrI]
    exact sp_err (fr' := fr) _ hrs hes rfl
  · have hgood := popsM_good (st := fr.stack) (ks := List.replicate a 1) (by simpa using hle)
    have hbad := popsM_bad (st := fr.stack) (ks := List.replicate a 1)
    simp only [List.length_replicate] at hgood hbad
    have hvl : (fr.stack.drop (fr.stack.length - a)).length = a := by simp; omega
    have hsl : (fr.stack.take (fr.stack.length - a)).length ≤ 100 := by have := hf.1; simp; omega
    have ha2 : a ≤ 100 := by have := hf.1; omega
    generalize fr.stack.drop (fr.stack.length - a) = vs at *
    generalize fr.stack.take (fr.stack.length - a) = st at *
    rw [rep_kinds hvl] at hgood hbad
    simp +contextual (maxSteps := 2000000) (disch := ((try unfold LIM at *); omega)) only [↓bcT, ↓bcF, WA, simprocAttr, wrI]
    refine LoopThen.ownG 2 (ι := Nat × Nat) (fun s => s.1 ≤ a ∧ s.1 ≤ s.2 ∧ ∀ v ∈ vs.take s.1, v.k = 1) (fun s => [(0, .ptr 0 0 0), (1, .ptr 1 0 0), (2, .s (.int .i64 a)), (6, .sl 2 0 a cap), (7, .sl 3 0 s.1 s.2), (8, .s (.int .i64 s.1))])
      (fun s => [pB m fuel mc none rs es, fS ⟨fr.pc, st, fr.slots⟩, ⟨vs.map valV, 3, cap, true⟩, ⟨((vs.take s.1).map (·.n)).map iV, 1, s.2, true⟩]) (fun s => a - s.1) 1000 1000
      ⟨(0, 0), ⟨Nat.zero_le _, Nat.zero_le _, by simp⟩, [], [], [0, 1, 2, 3], ⟨livesOf_nodup (by simp) _, rfl⟩, ⟨.inr (.inl ⟨p_nr .., rfl⟩), .inr (.inl ⟨fS_nr _, rfl⟩), .inr (.inl ⟨nrs_map valV_nr vs, rfl⟩), .inr (.inl ⟨rfl, rfl⟩), trivial⟩, by simp +contextual (maxSteps := 2000000) (disch := ((try unfold LIM at *); omega)) only [↓bcT, ↓bcF, WA, simprocAttr, wrI]⟩ ?_
    rintro ⟨i, cap2⟩ ⟨p1, p2, p3⟩
    simp only at p1 p2 p3
    by_cases c2 : i < a
    · have c2' : (i : Int) < a := by omega
      have pi : (0 : Int) ≤ i := by omega
      obtain ⟨v, hv⟩ : ∃ v, vs[i]? = some v := ⟨vs[i]'(by omega), List.getElem?_eq_getElem (by omega)⟩
      have hvv : (vs.map valV)[i]? = some (valV v) := by rw [List.getElem?_map, hv]; rfl
      simp only [valV] at hvv
      have hil : ((vs.take i).map (·.n)).length = i := by simp; omega
      by_cases c3 : v.k = 1
      · simp +contextual (maxSteps := 2000000) (disch := ((try unfold LIM at *); omega)) only [↓bcT, ↓bcF, WA, simprocAttr, wrI, List.length_map, hvl, c2', pi, hvv, hil, c3]
        refine ⟨⟨by omega, by unfold LIM; omega⟩, fun cap' h1 _ => ?_⟩
        have hap : ((vs.take i).map (·.n)).map iV ++ [[V.s (.int .i64 v.n)]] = ((vs.take (i + 1)).map (·.n)).map iV := by rw [List.take_add_one, hv]; simp [iV]
        refine ⟨(i + 1, cap'), ⟨⟨by simp only; omega, by simp only; omega, ?_⟩, by simp only; omega⟩, [], [], [0, 1, 2, 5], ⟨livesOf_nodup (by simp) _, rfl⟩, ⟨.inr (.inl ⟨p_nr .., rfl⟩), .inr (.inl ⟨fS_nr _, rfl⟩), .inr (.inl ⟨nrs_map valV_nr vs, rfl⟩), .inr (.inl ⟨nrs_map iV_nr _, by simp only [folds_nil, shrinks_nil]; rw [← hap]; rfl⟩), trivial⟩, by simp +contextual (maxSteps := 2000000) (disch := ((try unfold LIM at *); omega)) only [↓bcT, ↓bcF, WA, simprocAttr, wrI, cast_succ]⟩
        intro u hu
        simp only [List.take_add_one, hv, Option.toList_some, List.mem_append, List.mem_singleton] at hu
        rcases hu with q | q
        · exact p3 u q
        · rw [q]; exact c3
      · have e : rowM fr a = none := by
          unfold rowM
          split
          · rfl
          · rw [hbad fun q => c3 (q v (List.mem_of_getElem? hv))]
        rw [e]
        simp +contextual (maxSteps := 2000000) (disch := ((try unfold LIM at *); omega)) only [↓bcT, ↓bcF, WA, simprocAttr, wrI, List.length_map, hvl, c2', pi, hvv, hil, c3]
        refine CallThen.stop (m0 := m) (fuel := fuel) (mc := mc) (o := none) (rs := rs) (es := es) _ rfl rfl 1000 ?_
        simp +contextual (maxSteps := 2000000) (disch := ((try unfold LIM at *); omega)) only [↓bcT, ↓bcF, WA, simprocAttr, wrI, stopO]
        exact sp_err (fr' := ⟨fr.pc, st, fr.slots⟩) _ hrs hes rfl
    · have ei : i = a := by omega
      subst ei
      have c2' : ¬ (i : Int) < i := by omega
      have ht : vs.take i = vs := List.take_of_length_le (by omega)
      rw [ht] at p3
      by_cases c4 : 16 < i
      · have c4' : (16 : Int) < i := by omega
        have e : rowM fr i = none := by unfold rowM; rw [if_pos c4]
        rw [e]
        simp +contextual (maxSteps := 2000000) (disch := ((try unfold LIM at *); omega)) only [↓bcT, ↓bcF, WA, simprocAttr, wrI, List.length_map, hvl, c2', ht, pB, Option.isSome_none, c4']
        refine CallThen.stop (m0 := m) (fuel := fuel) (mc := mc) (o := none) (rs := rs) (es := es) _ rfl rfl 1000 ?_
        simp +contextual (maxSteps := 2000000) (disch := ((try unfold LIM at *); omega)) only [↓bcT, ↓bcF, WA, simprocAttr, wrI, stopO, pB, Option.isSome_some]
        exact sp_err (fr' := ⟨fr.pc, st, fr.slots⟩) (e := (3, 0)) _ hrs hes rfl
      · have c4' : ¬ (16 : Int) < i := by omega
        have e : rowM fr i = pushM st (rowE (vs.map (·.n))) := by unfold rowM; rw [if_neg c4, hgood p3]
        rw [e]
        simp +contextual (maxSteps := 2000000) (disch := ((try unfold LIM at *); omega)) only [↓bcT, ↓bcF, WA, simprocAttr, wrI, List.length_map, hvl, c2', ht, pB, Option.isSome_none, c4']
        refine CallThen.top 3 (by simp) (by simp) 6 (args' := [.f 1 ((vs.map (·.n)).map iV)]) ⟨.inr ?_, trivial⟩ ?_
        · simp +contextual (maxSteps := 2000000) (disch := ((try unfold LIM at *); omega)) only [↓bcT, ↓bcF, WA, simprocAttr, wrI, List.length_map, hvl]
          rw [List.take_of_length_le (by simp [hvl]), iV_frz]
        refine CallThen.pure (walk122 _) 1000 ?_
        simp +contextual (maxSteps := 2000000) (disch := ((try unfold LIM at *); omega)) only [↓bcT, ↓bcF, WA, simprocAttr, wrI, killFrom_eq]
        refine CallThen.push84 (m0 := m) (fuel := fuel) (mc := mc) (o := none) (rs := rs) (es := es) (fr := ⟨fr.pc, st, fr.slots⟩) (v := rowE (vs.map (·.n))) _ rfl rfl hsl 1000 (fun hq => ?_) (fun st' hq => ?_)
        · simp +contextual (maxSteps := 2000000) (disch := ((try unfold LIM at *); omega)) only [↓bcT, ↓bcF, WA, simprocAttr, wrI, stopO]
          exact sp_err (fr' := ⟨fr.pc, st, fr.slots⟩) _ hrs hes (optM_none hq)
        · simp +contextual (maxSteps := 2000000) (disch := ((try unfold LIM at *); omega)) only [↓bcT, ↓bcF, WA, simprocAttr, wrI]
          exact sp_ok (fr' := ⟨fr.pc, st', fr.slots⟩) _ hrs hes (optM_some hq)
end Go.Proofs.YtlhkfjannhhcbaaGreatDoor
/- part N8 -/
set_option linter.unusedVariables false
set_option linter.unusedSimpArgs false
set_option maxRecDepth 100000
namespace Go.Proofs.YtlhkfjannhhcbaaGreatDoor
open Go Go.W Go.RowKit
def SpV (m : Img) (fuel n : Nat) (q : Did Val) (res : Res) (h' : H) : Prop := ∃ rs es, rs.length = n ∧ es.length = n ∧ match q.2 with
  | .ok v => res = .ret (.agg (valV v)) ∧ h' = [pB m fuel q.1 none rs es]
  | .error e => res = .ret (.agg (valV zeroE)) ∧ h' = [pB m fuel q.1 (some e) rs es]
def SRun (m : Img) (fuel dd n : Nat) (run : IFun → List Val → Mc → Did Val) : Prop := ∀ (g : Nat) (f : IFun) (vs : List Val) (mc : Mc) (rs es : List Int), m.funs[g]? = some f → (∀ v ∈ vs, VOk v) → vs.length ≤ 4 → McOk fuel mc → fuel - mc.steps ≤ n → rs.length = m.funs.length → es.length = m.funs.length →
  CallsV C 43 [.ptr 0 0 0, .s (.int .i64 g), .f 3 (vs.map valV), .s (.int .i64 dd)] [pB m fuel mc none rs es] (SpV m fuel m.funs.length (run f vs mc))
theorem valV_rnV (ρ : Nat → Nat) (v : Val) : rnV ρ (.agg (valV v)) = .agg (valV v) := by simp only [rnV, rnQ, valV, List.map_cons, List.map_nil, rowV_rn]; rfl
theorem setAll0 (X X' : Blk) (r : H) : setAll (X :: r) [0] [X'] = X' :: r := by show setAll (X' :: r) [] [] = _; rw [setAll_nil, List.append_nil]
theorem spec89 (m : Img) (fuel : Nat) (fr : Fr) (mc : Mc) (rs es : List Int) (a d : Nat) (run : IFun → List Val → Mc → Did Val) (n : Nat) (hr : d < 30 → SRun m fuel (d + 1) n run) (hd : d ≤ 30) (hn : fuel - mc.steps ≤ n)
    (hf : FrOk fr) (hm : McOk fuel mc) (hok : m.funs.all okF = true) (hml : m.funs.length ≤ 72) (hrs : rs.length = m.funs.length) (hes : es.length = m.funs.length) :
    CallsV C 89 [.ptr 0 0 0, .ptr 1 0 0, .s (.int .i64 a), .s (.int .i64 d)] [pB m fuel mc none rs es, fS fr] (SpR m fuel m.funs.length (callM run m.funs d a fr mc)) := by
  refine calls_of_run Tryz.func89 rfl (by kernel_rfl) (by kernel_rfl) (by simp) 1000 ?_
  cases hg : m.funs[a]? with
  | none =>
    have ha := List.getElem?_eq_none_iff.1 hg
    have c1 : (m.funs.length : Int) ≤ a := by omega
    have e : callM run m.funs d a fr mc = wrongM mc := by unfold callM; rw [hg]
    rw [e]
    simp +contextual (maxSteps := 2000000) (disch := ((try unfold LIM at *); omega)) only [↓bcT, ↓bcF, WA, simprocAttr, wrI, pB, List.length_map, c1]
    intros
    refine CallThen.stop (m0 := m) (fuel := fuel) (mc := mc) (o := none) (rs := rs) (es := es) _ rfl rfl 1000 ?_
    simp +contextual (maxSteps := 2000000) (disch := ((try unfold LIM at *); omega)) only [↓bcT, ↓bcF, WA, simprocAttr, wrI, stopO]
    exact sp_err (fr' := fr) _ hrs hes rfl
  | some g =>
    have ha : a < m.funs.length := (List.getElem?_eq_some_iff.1 hg).1
    have c1 : ¬ (m.funs.length : Int) ≤ a := by omega
    have p0 : (0 : Int) ≤ a := by omega
    have p1 : (a : Int) < m.funs.length := by omega
    have hgv : (m.funs.map fnV)[a]? = some (fnV g) := by rw [List.getElem?_map, hg]; rfl
    simp only [fnV] at hgv
    obtain ⟨k1, k2⟩ := okF_args (List.all_eq_true.1 hok g (List.mem_of_getElem? hg))
    simp +contextual (maxSteps := 2000000) (disch := ((try unfold LIM at *); omega)) only [↓bcT, ↓bcF, WA, simprocAttr, wrI, pB, List.length_map, c1, p0, p1, hgv]
    intros
    refine CallThen.pop83 (m0 := m) (fuel := fuel) (mc := mc) (o := none) (rs := rs) (es := es) (fr := fr) (c := g.args.length) _ rfl rfl hf.1 (by omega) 1000 (fun hlt => ?_) (fun hle cap hcap => ?_)
    · have e : callM run m.funs d a fr mc = wrongM mc := by unfold callM; rw [hg]; dsimp only; rw [popsM_lt hlt]
      rw [e]
      simp +contextual (maxSteps := 2000000) (disch := ((try unfold LIM at *); omega)) only [↓bcT, ↓bcF, WA, simprocAttr, wrI, stopO, pB, Option.isSome_some]
      exact sp_err (fr' := fr) (e := (3, 0)) _ hrs hes rfl
    · have hgood := popsM_good (st := fr.stack) (ks := g.args) hle
      have hbad := popsM_bad (st := fr.stack) (ks := g.args)
      have hvs : ∀ v ∈ fr.stack.drop (fr.stack.length - g.args.length), VOk v := fun v hv => hf.2.1 v (List.mem_of_mem_drop hv)
      have hvl : (fr.stack.drop (fr.stack.length - g.args.length)).length = g.args.length := by simp; omega
      have hsl : (fr.stack.take (fr.stack.length - g.args.length)).length ≤ 100 := by have := hf.1; simp; omega
      generalize fr.stack.drop (fr.stack.length - g.args.length) = vs at *
      generalize fr.stack.take (fr.stack.length - g.args.length) = st at *
      simp +contextual (maxSteps := 2000000) (disch := ((try unfold LIM at *); omega)) only [↓bcT, ↓bcF, WA, simprocAttr, wrI, pB, Option.isSome_none]
      refine LoopThen.ownG 2 (ι := Nat) (fun i => i ≤ g.args.length ∧ eqL ((vs.map (·.k)).drop i) (g.args.drop i) = decide (vs.map (·.k) = g.args)) (fun i => [(0, .ptr 0 0 0), (1, .ptr 1 0 0), (2, .s (.int .i64 a)), (3, .s (.int .i64 d)), (8, .sl 2 0 g.args.length cap), (9, .s (.int .i64 i))])
        (fun i => [pB m fuel mc none rs es, fS ⟨fr.pc, st, fr.slots⟩, ⟨vs.map valV, 3, cap, true⟩]) (fun i => g.args.length - i) 1000 1000
        ⟨0, ⟨Nat.zero_le _, eqL_eq (by simpa using hvl)⟩, [], [], [0, 1, 2], ⟨livesOf_nodup (by simp) _, rfl⟩, ⟨.inr (.inl ⟨p_nr .., rfl⟩), .inr (.inl ⟨fS_nr _, rfl⟩), .inr (.inl ⟨nrs_map valV_nr vs, rfl⟩), trivial⟩, by simp +contextual (maxSteps := 2000000) (disch := ((try unfold LIM at *); omega)) only [↓bcT, ↓bcF, WA, simprocAttr, wrI]⟩ ?_
      rintro i ⟨q1, q2⟩
      by_cases c2 : i < g.args.length
      · have c2' : (i : Int) < g.args.length := by omega
        have pi : (0 : Int) ≤ i := by omega
        obtain ⟨t, ht⟩ := get_lt c2'
        obtain ⟨v, hv⟩ : ∃ v, vs[i]? = some v := ⟨vs[i]'(by omega), List.getElem?_eq_getElem (by omega)⟩
        have hv2 : (vs.map (·.k))[i]? = some v.k := by rw [List.getElem?_map, hv]; rfl
        have hvv : (vs.map valV)[i]? = some (valV v) := by rw [List.getElem?_map, hv]; rfl
        simp only [valV] at hvv
        rw [drop_cons hv2, drop_cons ht] at q2
        simp only [eqL] at q2
        by_cases c3 : v.k = t
        · rw [decide_eq_true c3, Bool.true_and] at q2
          simp +contextual (maxSteps := 2000000) (disch := ((try unfold LIM at *); omega)) only [↓bcT, ↓bcF, WA, simprocAttr, wrI, List.length_map, hvl, c2']
          refine DrawThen.of 1000 [] (.old 0 (.old 1 (.old 2 (.old 3 (.old 4 (.old 5 (.old 6 (.old 7 (.old 8 (.old 9 (.old 10 (.old 11 (.old 12 (.old 13 (.old 14 (.old 15 (.old 16 (.old 17 .done)))))))))))))))))) (panFree_loopN (panFree_body _ _)) (by kernel_rfl) (by kernel_rfl) (by kernel_rfl) ?_
          simp +contextual (maxSteps := 2000000) (disch := ((try unfold LIM at *); omega)) only [↓bcT, ↓bcF, WA, simprocAttr, wrI, pB, List.length_map, hvl, c2', pi, hvv, p0, p1, hgv, ht, iV, c3, cast_succ, List.getElem?_map, Option.map_some]
          exact ⟨i + 1, ⟨⟨by omega, q2⟩, by omega⟩, [], [], [0, 1, 2], ⟨livesOf_nodup (by simp) _, rfl⟩, ⟨.inr (.inl ⟨rfl, rfl⟩), .inr (.inl ⟨rfl, rfl⟩), .inr (.inl ⟨nrs_map valV_nr vs, rfl⟩), trivial⟩, by simp +contextual (maxSteps := 2000000) (disch := ((try unfold LIM at *); omega)) only [↓bcT, ↓bcF, WA, simprocAttr, wrI]⟩
        · rw [decide_eq_false c3, Bool.false_and] at q2
          have e : callM run m.funs d a fr mc = wrongM mc := by unfold callM; rw [hg]; dsimp only; rw [hbad (of_decide_eq_false q2.symm)]
          rw [e]
          simp +contextual (maxSteps := 2000000) (disch := ((try unfold LIM at *); omega)) only [↓bcT, ↓bcF, WA, simprocAttr, wrI, List.length_map, hvl, c2']
          refine DrawThen.of 1000 [] (.old 0 (.old 1 (.old 2 (.old 3 (.old 4 (.old 5 (.old 6 (.old 7 (.old 8 (.old 9 (.old 10 (.old 11 (.old 12 (.old 13 (.old 14 (.old 15 (.old 16 (.old 17 .done)))))))))))))))))) (panFree_loopN (panFree_body _ _)) (by kernel_rfl) (by kernel_rfl) (by kernel_rfl) ?_
          simp +contextual (maxSteps := 2000000) (disch := ((try unfold LIM at *); omega)) only [↓bcT, ↓bcF, WA, simprocAttr, wrI, pB, List.length_map, hvl, c2', pi, hvv, p0, p1, hgv, ht, iV, c3, cast_succ, List.getElem?_map, Option.map_some]
          refine CallThen.stop (m0 := m) (fuel := fuel) (mc := mc) (o := none) (rs := rs) (es := es) _ rfl rfl 1000 ?_
          simp +contextual (maxSteps := 2000000) (disch := ((try unfold LIM at *); omega)) only [↓bcT, ↓bcF, WA, simprocAttr, wrI, stopO]
          exact sp_err (fr' := ⟨fr.pc, st, fr.slots⟩) _ hrs hes rfl
      · have ei : i = g.args.length := by omega
        subst ei
        have c2' : ¬ (g.args.length : Int) < g.args.length := by omega
        rw [List.drop_length, List.drop_eq_nil_of_le (by simp; omega)] at q2
        have hkk : vs.map (·.k) = g.args := of_decide_eq_true q2.symm
        have ec : callM run m.funs d a fr mc = if d = 30 then (mc, .error (2, 4)) else match run g vs mc with
            | (mc', .error e) => (mc', .error e)
            | (mc', .ok v) => optM mc' fr (pushM st v) := by unfold callM; rw [hg]; dsimp only; rw [hgood hkk]; rfl
        rw [ec]
        by_cases c4 : d = 30
        · subst c4
          rw [if_pos rfl]
          simp +contextual (maxSteps := 2000000) (disch := ((try unfold LIM at *); omega)) only [↓bcT, ↓bcF, WA, simprocAttr, wrI, List.length_map, hvl, c2']
          refine CallThen.stop (m0 := m) (fuel := fuel) (mc := mc) (o := none) (rs := rs) (es := es) _ rfl rfl 1000 ?_
          simp +contextual (maxSteps := 2000000) (disch := ((try unfold LIM at *); omega)) only [↓bcT, ↓bcF, WA, simprocAttr, wrI, stopO]
          exact sp_err (fr' := ⟨fr.pc, st, fr.slots⟩) (e := (2, 4)) _ hrs hes rfl
        · rw [if_neg c4]
          have c4' : ¬ (30 : Int) ≤ d := by omega
          have R := hr (by omega) a g vs mc rs es hg hvs (by omega) hm hn hrs hes
          simp +contextual (maxSteps := 2000000) (disch := ((try unfold LIM at *); omega)) only [↓bcT, ↓bcF, WA, simprocAttr, wrI, List.length_map, hvl, c2', c4']
          refine CallThen.top 2 (by simp) (by simp) 6 (args' := [.ptr 0 0 0, .s (.int .i64 a), .f 3 (vs.map valV), .s (.int .i64 ((d + 1 : Nat) : Int))]) ⟨.inl rfl, .inl rfl, .inr ?_, .inl rfl, trivial⟩ ?_
          · simp +contextual (maxSteps := 2000000) (disch := ((try unfold LIM at *); omega)) only [↓bcT, ↓bcF, WA, simprocAttr, wrI, List.length_map, hvl]
            rw [List.take_of_length_le (by simp [hvl]), valV_frz]
          simp +contextual (maxSteps := 2000000) (disch := ((try unfold LIM at *); omega)) only [↓bcT, ↓bcF, WA, simprocAttr, wrI, killFrom_eq]
          refine CallThen.of 1000 (CallsV.frameL R [0] _ (by simp) ⟨.inl ⟨p_nr .., rfl⟩, trivial⟩ rfl) fun res h' ⟨r, h1, ⟨rs', es', k3, k4, k5⟩, k6, k7, k8⟩ => ?_
          subst k7; subst k8
          rcases hq : run g vs mc with ⟨mc', e | v⟩
          · rw [hq] at k5
            obtain ⟨rfl, rfl⟩ := k5
            show Run _ _ _ _ _ _ (upo _ (rnV _ (.agg (valV zeroE))) _) (setAll _ [0] [rnB _ (pB m fuel mc' (some e) rs' es')])
            rw [rnB_p, valV_rnV, setAll0]
            simp +contextual (maxSteps := 2000000) (disch := ((try unfold LIM at *); omega)) only [↓bcT, ↓bcF, WA, simprocAttr, wrI, pB, Option.isSome_some, valV_0]
            exact sp_err (fr' := ⟨fr.pc, st, fr.slots⟩) (e := e) _ k3 k4 rfl
          · rw [hq] at k5
            obtain ⟨rfl, rfl⟩ := k5
            show Run _ _ _ _ _ _ (upo _ (rnV _ (.agg (valV v))) _) (setAll _ [0] [rnB _ (pB m fuel mc' none rs' es')])
            rw [rnB_p, valV_rnV, setAll0]
            simp +contextual (maxSteps := 2000000) (disch := ((try unfold LIM at *); omega)) only [↓bcT, ↓bcF, WA, simprocAttr, wrI, pB, Option.isSome_none, valV, rowV_cellOk, rowV_nr, rowV_rn]
            refine CallThen.push84 (m0 := m) (fuel := fuel) (mc := mc') (o := none) (rs := rs') (es := es') (fr := ⟨fr.pc, st, fr.slots⟩) (v := v) _ rfl rfl hsl 1000 (fun hq => ?_) (fun st' hq => ?_)
            · simp +contextual (maxSteps := 2000000) (disch := ((try unfold LIM at *); omega)) only [↓bcT, ↓bcF, WA, simprocAttr, wrI, stopO]
              exact sp_err (fr' := ⟨fr.pc, st, fr.slots⟩) _ k3 k4 (optM_none hq)
            · simp +contextual (maxSteps := 2000000) (disch := ((try unfold LIM at *); omega)) only [↓bcT, ↓bcF, WA, simprocAttr, wrI]
              exact sp_ok (fr' := ⟨fr.pc, st', fr.slots⟩) _ k3 k4 (optM_some hq)
end Go.Proofs.YtlhkfjannhhcbaaGreatDoor
/- part N9 -/
set_option linter.unusedVariables false
set_option linter.unusedSimpArgs false
set_option maxRecDepth 100000
namespace Go.Proofs.YtlhkfjannhhcbaaGreatDoor
open Go Go.W Go.RowKit
section
variable {N n0 : Nat} {Q : QT} {k : List It} {τ : Tau} {h : H} {dst : Option Nat}
theorem CallThen.sp {g : Nat} {args args' : List V} {m0 : Img} {fuel n : Nat} {mc : Mc} {rs es : List Int} {fr : Fr} {q : Did Fr} (p : CallsV C g args [pB m0 fuel mc none rs es, fS fr] (SpR m0 fuel n q)) (rest : H) (eh : h = pB m0 fuel mc none rs es :: fS fr :: rest) (ha : args' = args.map (rnV (emb [0, 1] h.length))) (m : Nat)
    (hr : ∀ mc' fr' rs' es', q = (mc', .ok fr') → rs'.length = n → es'.length = n → Run C N n0 m Q k (upo dst (.tup []) τ) (pB m0 fuel mc' none rs' es' :: fS fr' :: rest))
    (hs : ∀ mc' e fr' rs' es', q = (mc', .error e) → rs'.length = n → es'.length = n → Run C N n0 m Q k (upo dst (.tup []) τ) (pB m0 fuel mc' (some e) rs' es' :: fS fr' :: rest)) : CallThen C N n0 Q g args' dst k τ h := by
  subst eh; subst ha
  refine CallThen.of m (CallsV.frameL p [0, 1] _ (by simp) ⟨.inl ⟨p_nr .., rfl⟩, .inl ⟨fS_nr _, rfl⟩, trivial⟩ rfl) fun res h' ⟨r, h1, ⟨rs', es', fr', k1, k2, k3, k4⟩, q2, q3, q4⟩ => ?_
  subst k3; subst q3; subst q4
  rcases hq : q with ⟨mc', e | fr2⟩
  · rw [hq] at k4
    simp only at k4
    subst k4
    show Run _ _ _ _ _ _ _ (setAll _ _ [rnB _ (pB m0 fuel mc' (some e) rs' es'), rnB _ (fS fr')])
    rw [rnB_p, rnB_fS, setAll01s]
    exact hs mc' e fr' rs' es' hq k1 k2
  · rw [hq] at k4
    obtain ⟨rfl, rfl⟩ := k4
    show Run _ _ _ _ _ _ _ (setAll _ _ [rnB _ (pB m0 fuel mc' none rs' es'), rnB _ (fS fr')])
    rw [rnB_p, rnB_fS, setAll01s]
    exact hr mc' fr' rs' es' hq k1 k2
end
theorem spec61 (m : Img) (fuel : Nat) (fr : Fr) (mc : Mc) (rs es : List Int) (x : Ins) (d : Nat) (run : IFun → List Val → Mc → Did Val) (n : Nat) (hr : d < 30 → SRun m fuel (d + 1) n run) (hd : d ≤ 30) (hn : fuel - mc.steps ≤ n)
    (hf : FrOk fr) (hs : fr.slots.length ≤ 1000) (hm : McOk fuel mc) (hfu : fuel ≤ 400000) (hok : m.funs.all okF = true) (hml : m.funs.length ≤ 72) (hrs : rs.length = m.funs.length) (hes : es.length = m.funs.length) (hx : insB x = true) (h9 : x.op ≠ 9) (h6 : x.op ≠ 6) (h7 : x.op ≠ 7) :
    CallsV C 61 [.ptr 0 0 0, .ptr 1 0 0, .agg (insV x), .s (.int .i64 d)] [pB m fuel mc none rs es, fS fr] (SpR m fuel m.funs.length (doM run m.funs d x fr mc)) := by
  refine calls_of_run Tryz.func61 rfl (by kernel_rfl) (by kernel_rfl) (by simp) 1000 ?_
  obtain ⟨h1, h2, h3⟩ := insB_in hx
  obtain ⟨o, a⟩ := x
  simp only at h2 h3 h9 h6 h7
  by_cases o1 : o = 1
  · subst o1
    simp +contextual (maxSteps := 2000000) (disch := ((try unfold LIM at *); omega)) only [↓bcT, ↓bcF, WA, simprocAttr, wrI, insV]
    refine CallThen.pure (walk85 _) 1000 ?_
    simp +contextual (maxSteps := 2000000) (disch := ((try unfold LIM at *); omega)) only [↓bcT, ↓bcF, WA, simprocAttr, wrI]
    refine CallThen.push84 (m0 := m) (fuel := fuel) (mc := mc) (o := none) (rs := rs) (es := es) (fr := fr) (v := intE a) _ rfl rfl hf.1 1000 (fun hq => ?_) (fun st' hq => ?_)
    · simp +contextual (maxSteps := 2000000) (disch := ((try unfold LIM at *); omega)) only [↓bcT, ↓bcF, WA, simprocAttr, wrI, stopO]
      exact sp_err (fr' := fr) _ hrs hes (optM_none hq)
    · simp +contextual (maxSteps := 2000000) (disch := ((try unfold LIM at *); omega)) only [↓bcT, ↓bcF, WA, simprocAttr, wrI]
      exact sp_ok (fr' := ⟨fr.pc, st', fr.slots⟩) _ hrs hes (optM_some hq)
  by_cases o2 : o = 2
  · subst o2
    simp +contextual (maxSteps := 2000000) (disch := ((try unfold LIM at *); omega)) only [↓bcT, ↓bcF, WA, simprocAttr, wrI, insV]
    refine CallThen.pure (walk86 _) 1000 ?_
    simp +contextual (maxSteps := 2000000) (disch := ((try unfold LIM at *); omega)) only [↓bcT, ↓bcF, WA, simprocAttr, wrI]
    refine CallThen.push84 (m0 := m) (fuel := fuel) (mc := mc) (o := none) (rs := rs) (es := es) (fr := fr) (v := boolE (decide (a = 1))) _ rfl rfl hf.1 1000 (fun hq => ?_) (fun st' hq => ?_)
    · simp +contextual (maxSteps := 2000000) (disch := ((try unfold LIM at *); omega)) only [↓bcT, ↓bcF, WA, simprocAttr, wrI, stopO]
      exact sp_err (fr' := fr) _ hrs hes (optM_none hq)
    · simp +contextual (maxSteps := 2000000) (disch := ((try unfold LIM at *); omega)) only [↓bcT, ↓bcF, WA, simprocAttr, wrI]
      exact sp_ok (fr' := ⟨fr.pc, st', fr.slots⟩) _ hrs hes (optM_some hq)
  obtain ⟨k, rfl, hk⟩ : ∃ k : Nat, a = k ∧ k ≤ 1000 := by
    rcases h1 with q | q | q
    · exact absurd q o1
    · exact absurd q o2
    · exact q
  by_cases o3 : o = 3
  · subst o3
    simp +contextual (maxSteps := 2000000) (disch := ((try unfold LIM at *); omega)) only [↓bcT, ↓bcF, WA, simprocAttr, wrI, insV]
    refine CallThen.sp (spec87 m fuel m.funs.length fr mc rs es 3 k (.inl rfl) hf hs hrs hes) _ rfl rfl 1000 (fun mc' fr' rs' es' hq l1 l2 => ?_) (fun mc' e fr' rs' es' hq l1 l2 => ?_)
    · simp +contextual (maxSteps := 2000000) (disch := ((try unfold LIM at *); omega)) only [↓bcT, ↓bcF, WA, simprocAttr, wrI]
      exact sp_ok (fr' := fr') _ l1 l2 hq
    · simp +contextual (maxSteps := 2000000) (disch := ((try unfold LIM at *); omega)) only [↓bcT, ↓bcF, WA, simprocAttr, wrI]
      exact sp_err (fr' := fr') _ l1 l2 hq
  by_cases o4 : o = 4
  · subst o4
    simp +contextual (maxSteps := 2000000) (disch := ((try unfold LIM at *); omega)) only [↓bcT, ↓bcF, WA, simprocAttr, wrI, insV]
    refine CallThen.sp (spec87 m fuel m.funs.length fr mc rs es 4 k (.inr rfl) hf hs hrs hes) _ rfl rfl 1000 (fun mc' fr' rs' es' hq l1 l2 => ?_) (fun mc' e fr' rs' es' hq l1 l2 => ?_)
    · simp +contextual (maxSteps := 2000000) (disch := ((try unfold LIM at *); omega)) only [↓bcT, ↓bcF, WA, simprocAttr, wrI]
      exact sp_ok (fr' := fr') _ l1 l2 hq
    · simp +contextual (maxSteps := 2000000) (disch := ((try unfold LIM at *); omega)) only [↓bcT, ↓bcF, WA, simprocAttr, wrI]
      exact sp_err (fr' := fr') _ l1 l2 hq
  by_cases o5 : o = 5
  · subst o5
    simp +contextual (maxSteps := 2000000) (disch := ((try unfold LIM at *); omega)) only [↓bcT, ↓bcF, WA, simprocAttr, wrI, insV]
    refine CallThen.sp (spec88 m fuel m.funs.length fr mc rs es k hf hm hfu hrs hes) _ rfl rfl 1000 (fun mc' fr' rs' es' hq l1 l2 => ?_) (fun mc' e fr' rs' es' hq l1 l2 => ?_)
    · simp +contextual (maxSteps := 2000000) (disch := ((try unfold LIM at *); omega)) only [↓bcT, ↓bcF, WA, simprocAttr, wrI]
      exact sp_ok (fr' := fr') _ l1 l2 hq
    · simp +contextual (maxSteps := 2000000) (disch := ((try unfold LIM at *); omega)) only [↓bcT, ↓bcF, WA, simprocAttr, wrI]
      exact sp_err (fr' := fr') _ l1 l2 hq
  by_cases o8 : o = 8
  · subst o8
    simp +contextual (maxSteps := 2000000) (disch := ((try unfold LIM at *); omega)) only [↓bcT, ↓bcF, WA, simprocAttr, wrI, insV]
    refine CallThen.sp (spec89 m fuel fr mc rs es k d run n hr hd hn hf hm hok hml hrs hes) _ rfl rfl 1000 (fun mc' fr' rs' es' hq l1 l2 => ?_) (fun mc' e fr' rs' es' hq l1 l2 => ?_)
    · simp +contextual (maxSteps := 2000000) (disch := ((try unfold LIM at *); omega)) only [↓bcT, ↓bcF, WA, simprocAttr, wrI]
      exact sp_ok (fr' := fr') _ l1 l2 hq
    · simp +contextual (maxSteps := 2000000) (disch := ((try unfold LIM at *); omega)) only [↓bcT, ↓bcF, WA, simprocAttr, wrI]
      exact sp_err (fr' := fr') _ l1 l2 hq
  · have : o = 10 := by omega
    subst this
    simp +contextual (maxSteps := 2000000) (disch := ((try unfold LIM at *); omega)) only [↓bcT, ↓bcF, WA, simprocAttr, wrI, insV]
    refine CallThen.sp (spec90 m fuel m.funs.length fr mc rs es k hk hf hrs hes) _ rfl rfl 1000 (fun mc' fr' rs' es' hq l1 l2 => ?_) (fun mc' e fr' rs' es' hq l1 l2 => ?_)
    · simp +contextual (maxSteps := 2000000) (disch := ((try unfold LIM at *); omega)) only [↓bcT, ↓bcF, WA, simprocAttr, wrI]
      exact sp_ok (fr' := fr') _ l1 l2 hq
    · simp +contextual (maxSteps := 2000000) (disch := ((try unfold LIM at *); omega)) only [↓bcT, ↓bcF, WA, simprocAttr, wrI]
      exact sp_err (fr' := fr') _ l1 l2 hq
end Go.Proofs.YtlhkfjannhhcbaaGreatDoor
/- part N10 -/
set_option linter.unusedVariables false
set_option linter.unusedSimpArgs false
set_option maxRecDepth 100000
namespace Go.Proofs.YtlhkfjannhhcbaaGreatDoor
open Go Go.W Go.RowKit
theorem foldA {A B C D E G I J X2 X4 : V} {Y2 Y4 : Blk} {y : V} {hs st : List (List V)} {n k c c2 : Nat} (h1 : hs.length = n) (h2 : st.length = k) (h3 : nrs hs = true) (h4 : nrs st = true) :
    folds [⟨[[A, B, C, D, E, G, I, J, .sl 5 0 n c, X2, X4]], 11, 1, true⟩, ⟨[[.sl 3 0 k c2, y]], 2, 1, true⟩, Y2, ⟨st, 3, c2, true⟩, Y4, ⟨hs, 1, c, true⟩] [(0, 0, 8), (1, 0, 0)] = [⟨[[A, B, C, D, E, G, I, J, .l 1 hs, X2, X4]], 11, 1, true⟩, ⟨[[.l 3 st, y]], 2, 1, true⟩, Y2, .dead, Y4, .dead] := by
  simp [folds, foldC, foldK, rdC, rdB, refB, ownOf, elsB, wrH, wrB, wrE, wrL, shrinks, shr1, gcL, h1, h2, h3, h4]
theorem foldB {A B C D E G I J X2 X4 : V} {Y2 Y4 : Blk} {y : V} {hs st : List (List V)} {n k c c2 : Nat} (h1 : hs.length = n) (h2 : st.length = k) (h3 : nrs hs = true) (h4 : nrs st = true) :
    folds [⟨[[A, B, C, D, E, G, I, J, .sl 5 0 n c, X2, X4]], 11, 1, true⟩, ⟨[[.sl 2 0 k c2, y]], 2, 1, true⟩, ⟨st, 3, c2, true⟩, Y2, Y4, ⟨hs, 1, c, true⟩] [(0, 0, 8), (1, 0, 0)] = [⟨[[A, B, C, D, E, G, I, J, .l 1 hs, X2, X4]], 11, 1, true⟩, ⟨[[.l 3 st, y]], 2, 1, true⟩, .dead, Y2, Y4, .dead] := by
  simp [folds, foldC, foldK, rdC, rdB, refB, ownOf, elsB, wrH, wrB, wrE, wrL, shrinks, shr1, gcL, h1, h2, h3, h4]
theorem spec58 (m : Img) (fuel : Nat) (fr : Fr) (mc : Mc) (rs es : List Int) (hl : fr.stack.length ≤ 100) (hm : McOk fuel mc) (hfu : fuel ≤ 400000) : CallsV C 58 [.ptr 0 0 0, .ptr 1 0 0] [pB m fuel mc none rs es, fS fr] fun res h' =>
    if mc.steps = fuel then res = .ret (.s (.bool false)) ∧ h' = [pB m fuel mc (some (0, 0)) rs es, fS fr]
    else res = .ret (.s (.bool true)) ∧ h' = [pB m fuel ⟨mc.steps + 1, mc.out, mc.high ++ [(fr.stack.length : Int)]⟩ none rs es, fS fr] := by
  refine calls_of_run Tryz.func58 rfl (by kernel_rfl) (by kernel_rfl) (by simp) 1000 ?_
  have q1 := hm.1
  have q2 := hm.2.2
  by_cases c : mc.steps = fuel
  · have c' : (fuel : Int) - mc.steps = 0 := by omega
    simp only [if_pos c]
    simp +contextual (maxSteps := 2000000) (disch := ((try unfold LIM at *); omega)) only [↓bcT, ↓bcF, WA, simprocAttr, wrI, pB, c']
    refine CallThen.stop (m0 := m) (fuel := fuel) (mc := mc) (o := none) (rs := rs) (es := es) _ (by simp only [pB, c']; rfl) rfl 1000 ?_
    simp +contextual (maxSteps := 2000000) (disch := ((try unfold LIM at *); omega)) only [↓bcT, ↓bcF, WA, simprocAttr, wrI, stopO]
    exact Up.gcF (.s (.bool false)) [] [] [0, 1] [pB m fuel mc (some (0, 0)) rs es, fS fr] (by simp) rfl ⟨.inl ⟨p_nr .., rfl⟩, .inl ⟨fS_nr _, rfl⟩, trivial⟩ rfl ⟨rfl, by simp only [pB, c']⟩
  · have c' : ¬ (fuel : Int) - mc.steps = 0 := by omega
    have e1 : (fuel : Int) - mc.steps - 1 = (fuel : Int) - ((mc.steps + 1 : Nat) : Int) := by omega
    have e0 : mc.steps ≤ 400000 := by omega
    simp only [if_neg c]
    simp +contextual (maxSteps := 2000000) (disch := ((try unfold LIM at *); omega)) only [↓bcT, ↓bcF, WA, simprocAttr, wrI, pB, c', e1, cast_succ]
    refine DrawThen.of 1000 [0, 1] (.old 0 (.old 1 (.old 2 (.old 3 (.old 5 (.old 6 (.old 7 (.or 4 (.go 8 (.new 9 (.go 10 (.go 11 (.old 12 (.old 13 (.go 14 .done))))))) (.go 8 (.new 9 (.or 4 (.go 10 (.go 11 (.old 12 (.old 13 (.go 14 .done))))) (.go 10 (.go 4 (.go 11 (.old 12 (.old 13 (.go 14 .done))))))))))))))))) (panFree_body _ _) (by kernel_rfl) (by kernel_rfl) (by kernel_rfl) ?_
    simp +contextual (maxSteps := 2000000) (disch := ((try unfold LIM at *); omega)) only [↓bcT, ↓bcF, WA, simprocAttr, wrI, fS, List.length_map]
    repeat' apply And.intro
    all_goals
      repeat' (first | refine And.intro ?_ ?_ | intro _)
      all_goals first
        | omega
        | (unfold LIM; omega)
        | (refine Up.gcF (.s (.bool true)) [] [(0, 0, 8), (1, 0, 0)] [0, 1] [pB m fuel ⟨mc.steps + 1, mc.out, mc.high ++ [(fr.stack.length : Int)]⟩ none rs es, fS fr] (by simp) rfl ?_ rfl ⟨rfl, rfl⟩
           have hn : nrs (mc.high.map iV ++ [[V.s (.int .i64 (fr.stack.length : Int))]]) = true := by
             have := nrs_map iV_nr (mc.high ++ [(fr.stack.length : Int)]); simpa [iV] using this
           rw [shrinks_nil]
           first
             | rw [foldA (by simp) (by simp) hn (nrs_map valV_nr _)]
             | rw [foldB (by simp) (by simp) hn (nrs_map valV_nr _)]
           exact ⟨.inl ⟨rfl, by simp [pB, iV, ovE, ovT]⟩, .inl ⟨rfl, rfl⟩, trivial⟩)
end Go.Proofs.YtlhkfjannhhcbaaGreatDoor
/- part N11 -/
set_option linter.unusedVariables false
set_option linter.unusedSimpArgs false
set_option maxRecDepth 100000
namespace Go.Proofs.YtlhkfjannhhcbaaGreatDoor
open Go Go.W Go.RowKit
theorem last_of {st : List Val} (h : 1 ≤ st.length) : ∃ l v, st = l ++ [v] := by
  rcases List.eq_nil_or_concat st with q | ⟨l, v, q⟩
  · rw [q] at h; simp at h
  · exact ⟨l, v, by simpa using q⟩
def BackR (m : Img) (fuel : Nat) (rs es : List Int) (q : Did Val) (res : Res) (h' : H) : Prop := ∃ fr', match q.2 with
  | .ok v => res = .ret (.agg (valV v)) ∧ h' = [pB m fuel q.1 none rs es, fS fr']
  | .error e => res = .ret (.agg (valV zeroE)) ∧ h' = [pB m fuel q.1 (some e) rs es, fS fr']
theorem back_err {m : Img} {fuel : Nat} {mc : Mc} {rs es : List Int} {e : Stop} {fr' : Fr} (r : H) : Up 2 (BackR m fuel rs es (mc, .error e)) (.ret (.agg [.s (.int .i64 0), .s (.int .i64 0), .z])) (pB m fuel mc (some e) rs es :: fS fr' :: r) :=
  Up.gcF (.agg (valV zeroE)) [] [] [0, 1] [pB m fuel mc (some e) rs es, fS fr'] (by simp) rfl ⟨.inl ⟨p_nr .., rfl⟩, .inl ⟨fS_nr _, rfl⟩, trivial⟩ rfl ⟨fr', rfl, rfl⟩
theorem fold4 {els : List (List V)} {X B C : Blk} {y : V} {len cap : Nat} (hl : els.length = len) (hn : nrs els = true) (r : H) :
    folds (X :: ⟨[[.sl 4 0 len cap, y]], 2, 1, true⟩ :: B :: C :: ⟨els, 3, cap, true⟩ :: r) [(1, 0, 0)] = X :: ⟨[[.l 3 els, y]], 2, 1, true⟩ :: B :: C :: Blk.dead :: r := by
  simp [folds, foldC, foldK, rdC, rdB, refB, ownOf, elsB, wrH, wrB, wrE, wrL, shrinks, shr1, gcL, hl, hn]
theorem spec59 (m : Img) (fuel : Nat) (fr : Fr) (mc : Mc) (rs es : List Int) (typ : Int) (ht : typ ≠ 0) (hl : fr.stack.length ≤ 100) : CallsV C 59 [.ptr 0 0 0, .ptr 1 0 0, .s (.int .i64 typ)] [pB m fuel mc none rs es, fS fr] (BackR m fuel rs es (backM typ fr.stack mc)) := by
  refine calls_of_run Tryz.func59 rfl (by kernel_rfl) (by kernel_rfl) (by simp) 1000 ?_
  simp +contextual (maxSteps := 2000000) (disch := ((try unfold LIM at *); omega)) only [↓bcT, ↓bcF, WA, simprocAttr, wrI]
  refine CallThen.pop83 (m0 := m) (fuel := fuel) (mc := mc) (o := none) (rs := rs) (es := es) (fr := fr) (c := 1) _ rfl rfl hl (by omega) 1000 (fun hlt => ?_) (fun hle cap hcap => ?_)
  · have e : backM typ fr.stack mc = wrongM mc := by unfold backM; rw [popsM_lt (by simpa using hlt)]
    rw [e]
    simp +contextual (maxSteps := 2000000) (disch := ((try unfold LIM at *); omega)) only [↓bcT, ↓bcF, WA, simprocAttr, wrI, stopO, pB, Option.isSome_some]
    refine CallThen.stop (m0 := m) (fuel := fuel) (mc := mc) (o := some (3, 0)) (rs := rs) (es := es) _ rfl rfl 1000 ?_
    simp +contextual (maxSteps := 2000000) (disch := ((try unfold LIM at *); omega)) only [↓bcT, ↓bcF, WA, simprocAttr, wrI, stopO]
    exact back_err (fr' := fr) _
  · obtain ⟨l, v, hst⟩ := last_of hle
    have hd1 : List.drop (fr.stack.length - 1) fr.stack = [v] := by rw [hst]; simp
    have ht1 : List.take (fr.stack.length - 1) fr.stack = l := by rw [hst]; simp
    have ll : l.length ≤ 100 := by have := congrArg List.length hst; simp at this; omega
    have hp : popO fr.stack typ = if v.k ≠ typ then none else some (v, l) := by rw [hst]; simp [popO, ht]
    have eb : backM typ fr.stack mc = if v.k = typ then (if l = [] then (mc, .ok v) else wrongM mc) else wrongM mc := by
      unfold backM; rw [popO_two ht, hp]
      by_cases q : v.k = typ
      · simp [q]
      · simp [q]
    rw [eb, hd1, ht1]
    by_cases c : v.k = typ
    · rw [if_pos c]
      subst c
      by_cases c2 : l = []
      · rw [if_pos c2]
        subst c2
        simp +contextual (maxSteps := 2000000) (disch := ((try unfold LIM at *); omega)) only [↓bcT, ↓bcF, WA, simprocAttr, wrI, pB, Option.isSome_none, valV, List.map_cons, List.map_nil, rowV_cellOk, rowV_nr, rowV_rn, fS, List.length_nil]
        intro cap1 _
        refine Up.gcF (.agg (valV v)) [] [(1, 0, 0)] [0, 1] [pB m fuel mc none rs es, fS ⟨fr.pc, [], fr.slots⟩] (by simp) rfl ?_ (valV_rnV _ v).symm ⟨_, rfl, rfl⟩
        rw [shrinks_nil, fold4 (els := []) (len := 0) rfl rfl []]
        exact ⟨.inl ⟨rfl, rfl⟩, .inl ⟨rfl, rfl⟩, trivial⟩
      · rw [if_neg c2]
        have c2' : (0 : Int) < l.length := by have := List.length_pos_iff.2 c2; omega
        simp +contextual (maxSteps := 2000000) (disch := ((try unfold LIM at *); omega)) only [↓bcT, ↓bcF, WA, simprocAttr, wrI, pB, Option.isSome_none, valV, List.map_cons, List.map_nil, rowV_cellOk, rowV_nr, rowV_rn, fS, List.length_map, c2']
        intro cap1 _
        refine CallThen.folded [(1, 0, 0)] _ (fold4 (X := pB m fuel mc none rs es) (by simp) (nrs_map valV_nr l) _) (m := 0) ?_
        refine CallThen.stop (m0 := m) (fuel := fuel) (mc := mc) (o := none) (rs := rs) (es := es) _ rfl rfl 1000 ?_
        simp +contextual (maxSteps := 2000000) (disch := ((try unfold LIM at *); omega)) only [↓bcT, ↓bcF, WA, simprocAttr, wrI, stopO]
        exact back_err (fr' := ⟨fr.pc, l, fr.slots⟩) _
    · rw [if_neg c]
      simp +contextual (maxSteps := 2000000) (disch := ((try unfold LIM at *); omega)) only [↓bcT, ↓bcF, WA, simprocAttr, wrI, pB, Option.isSome_none, valV, List.map_cons, List.map_nil, rowV_cellOk, rowV_nr, rowV_rn, c]
      refine CallThen.stop (m0 := m) (fuel := fuel) (mc := mc) (o := none) (rs := rs) (es := es) _ rfl rfl 1000 ?_
      simp +contextual (maxSteps := 2000000) (disch := ((try unfold LIM at *); omega)) only [↓bcT, ↓bcF, WA, simprocAttr, wrI, stopO]
      exact back_err (fr' := ⟨fr.pc, l, fr.slots⟩) _
def UnlR (m : Img) (fuel : Nat) (rs es : List Int) (q : Did Fr) (res : Res) (h' : H) : Prop := ∃ fr', match q.2 with
  | .ok fr2 => res = .ret (.s (.int .i64 fr2.pc)) ∧ fr' = fr2 ∧ h' = [pB m fuel q.1 none rs es, fS fr']
  | .error e => ∃ x, res = .ret (.s (.int .i64 x)) ∧ h' = [pB m fuel q.1 (some e) rs es, fS fr']
theorem unl_err {m : Img} {fuel : Nat} {mc : Mc} {rs es : List Int} {e : Stop} {fr' : Fr} {x : Int} (r : H) : Up 2 (UnlR m fuel rs es (mc, .error e)) (.ret (.s (.int .i64 x))) (pB m fuel mc (some e) rs es :: fS fr' :: r) :=
  Up.gcF (.s (.int .i64 x)) [] [] [0, 1] [pB m fuel mc (some e) rs es, fS fr'] (by simp) rfl ⟨.inl ⟨p_nr .., rfl⟩, .inl ⟨fS_nr _, rfl⟩, trivial⟩ rfl ⟨fr', x, rfl, rfl⟩
theorem unl_ok {m : Img} {fuel : Nat} {mc : Mc} {rs es : List Int} {fr' : Fr} (r : H) : Up 2 (UnlR m fuel rs es (mc, .ok fr')) (.ret (.s (.int .i64 fr'.pc))) (pB m fuel mc none rs es :: fS fr' :: r) :=
  Up.gcF (.s (.int .i64 fr'.pc)) [] [] [0, 1] [pB m fuel mc none rs es, fS fr'] (by simp) rfl ⟨.inl ⟨p_nr .., rfl⟩, .inl ⟨fS_nr _, rfl⟩, trivial⟩ rfl ⟨fr', rfl, rfl, rfl⟩
theorem spec60 (m : Img) (fuel : Nat) (fr : Fr) (mc : Mc) (rs es : List Int) (a : Nat) (hl : fr.stack.length ≤ 100) : CallsV C 60 [.ptr 0 0 0, .ptr 1 0 0, .s (.int .i64 a), .s (.int .i64 fr.pc)] [pB m fuel mc none rs es, fS fr] (UnlR m fuel rs es (toM mc (unlessM fr a))) := by
  refine calls_of_run Tryz.func60 rfl (by kernel_rfl) (by kernel_rfl) (by simp) 1000 ?_
  simp +contextual (maxSteps := 2000000) (disch := ((try unfold LIM at *); omega)) only [↓bcT, ↓bcF, WA, simprocAttr, wrI]
  refine CallThen.pop83 (m0 := m) (fuel := fuel) (mc := mc) (o := none) (rs := rs) (es := es) (fr := fr) (c := 1) _ rfl rfl hl (by omega) 1000 (fun hlt => ?_) (fun hle cap hcap => ?_)
  · have e : unlessM fr a = none := by unfold unlessM; rw [popsM_lt (by simpa using hlt)]
    rw [e]
    simp +contextual (maxSteps := 2000000) (disch := ((try unfold LIM at *); omega)) only [↓bcT, ↓bcF, WA, simprocAttr, wrI, stopO, pB, Option.isSome_some]
    refine CallThen.stop (m0 := m) (fuel := fuel) (mc := mc) (o := some (3, 0)) (rs := rs) (es := es) _ rfl rfl 1000 ?_
    simp +contextual (maxSteps := 2000000) (disch := ((try unfold LIM at *); omega)) only [↓bcT, ↓bcF, WA, simprocAttr, wrI, stopO]
    exact unl_err (fr' := fr) _
  · obtain ⟨l, v, hst⟩ := last_of hle
    have hd1 : List.drop (fr.stack.length - 1) fr.stack = [v] := by rw [hst]; simp
    have ht1 : List.take (fr.stack.length - 1) fr.stack = l := by rw [hst]; simp
    have eu : unlessM fr a = if v.k = 2 then some ⟨if v.n = 0 then a else fr.pc, l, fr.slots⟩ else none := by
      unfold unlessM; rw [popO_two (by decide), hst]
      by_cases q : v.k = 2
      · simp [popO, q]
      · simp [popO, q]
    rw [eu, hd1, ht1]
    by_cases c : v.k = 2
    · rw [if_pos c]
      by_cases c2 : v.n = 0
      · rw [if_pos c2]
        simp +contextual (maxSteps := 2000000) (disch := ((try unfold LIM at *); omega)) only [↓bcT, ↓bcF, WA, simprocAttr, wrI, pB, Option.isSome_none, valV, List.map_cons, List.map_nil, rowV_cellOk, rowV_nr, rowV_rn, c, c2]
        exact unl_ok (fr' := ⟨a, l, fr.slots⟩) _
      · rw [if_neg c2]
        simp +contextual (maxSteps := 2000000) (disch := ((try unfold LIM at *); omega)) only [↓bcT, ↓bcF, WA, simprocAttr, wrI, pB, Option.isSome_none, valV, List.map_cons, List.map_nil, rowV_cellOk, rowV_nr, rowV_rn, c, c2]
        exact unl_ok (fr' := ⟨fr.pc, l, fr.slots⟩) _
    · rw [if_neg c]
      simp +contextual (maxSteps := 2000000) (disch := ((try unfold LIM at *); omega)) only [↓bcT, ↓bcF, WA, simprocAttr, wrI, pB, Option.isSome_none, valV, List.map_cons, List.map_nil, rowV_cellOk, rowV_nr, rowV_rn, c]
      refine CallThen.stop (m0 := m) (fuel := fuel) (mc := mc) (o := none) (rs := rs) (es := es) _ rfl rfl 1000 ?_
      simp +contextual (maxSteps := 2000000) (disch := ((try unfold LIM at *); omega)) only [↓bcT, ↓bcF, WA, simprocAttr, wrI, stopO]
      exact unl_err (fr' := ⟨fr.pc, l, fr.slots⟩) _
end Go.Proofs.YtlhkfjannhhcbaaGreatDoor
/- part N12 -/
set_option linter.unusedVariables false
set_option linter.unusedSimpArgs false
set_option maxRecDepth 100000
set_option maxHeartbeats 4000000
namespace Go.Proofs.YtlhkfjannhhcbaaGreatDoor
open Go Go.W Go.RowKit
theorem spv_err {m : Img} {fuel n : Nat} {mc : Mc} {rs es : List Int} {e : Stop} (r : H) (h1 : rs.length = n) (h2 : es.length = n) : Up 1 (SpV m fuel n (mc, .error e)) (.ret (.agg [.s (.int .i64 0), .s (.int .i64 0), .z])) (pB m fuel mc (some e) rs es :: r) :=
  Up.gcF (.agg (valV zeroE)) [] [] [0] [pB m fuel mc (some e) rs es] (by simp) rfl ⟨.inl ⟨p_nr .., rfl⟩, trivial⟩ rfl ⟨rs, es, h1, h2, rfl, rfl⟩
theorem spv_ok {m : Img} {fuel n : Nat} {mc : Mc} {rs es : List Int} {v : Val} (r : H) (h1 : rs.length = n) (h2 : es.length = n) : Up 1 (SpV m fuel n (mc, .ok v)) (.ret (.agg (valV v))) (pB m fuel mc none rs es :: r) :=
  Up.gcF (.agg (valV v)) [] [] [0] [pB m fuel mc none rs es] (by simp) rfl ⟨.inl ⟨p_nr .., rfl⟩, trivial⟩ (valV_rnV _ v).symm ⟨rs, es, h1, h2, rfl, rfl⟩
theorem foldF {A B C D E G I J K X : V} {R Fn : Blk} {rs zs : List (List V)} {n z c : Nat} (h1 : rs.length = n) (h2 : nrs rs = true) (h3 : zs.length = z) (h4 : nrs zs = true) :
    folds [⟨[[A, B, C, D, E, G, I, J, K, .sl 3 0 n c, X]], 11, 1, true⟩, R, Fn, ⟨rs, 1, c, true⟩, ⟨zs, 3, z, true⟩, ⟨[[.sl 6 0 0 0, .sl 4 0 z z]], 2, 1, true⟩, ⟨[], 3, 0, true⟩] [(0, 0, 9), (5, 0, 0), (5, 0, 1)] = [⟨[[A, B, C, D, E, G, I, J, K, .l 1 rs, X]], 11, 1, true⟩, R, Fn, .dead, .dead, ⟨[[.l 3 [], .l 3 zs]], 2, 1, true⟩, .dead] := by
  have h0 : nrs [] = true := rfl
  simp [folds, foldC, foldK, rdC, rdB, refB, ownOf, elsB, wrH, wrB, wrE, wrL, shrinks, shr1, gcL, h0, h1, h2, h3, h4]
theorem foldE {A B C D E G I J K L : V} {Y1 Y2 Y3 Y4 : Blk} {es : List (List V)} {n c : Nat} (h1 : es.length = n) (h2 : nrs es = true) :
    folds [⟨[[A, B, C, D, E, G, I, J, K, L, .sl 5 0 n c]], 11, 1, true⟩, Y1, Y2, Y3, Y4, ⟨es, 1, c, true⟩] [(0, 0, 10)] = [⟨[[A, B, C, D, E, G, I, J, K, L, .l 1 es]], 11, 1, true⟩, Y1, Y2, Y3, Y4, .dead] := by
  simp [folds, foldC, foldK, rdC, rdB, refB, ownOf, elsB, wrH, wrB, wrE, wrL, shrinks, shr1, gcL, h1, h2]
theorem foldS {A B C : Blk} {y : V} {els : List (List V)} {len cap : Nat} (hl : els.length = len) (hn : nrs els = true) (r : H) :
    folds (A :: B :: C :: ⟨[[y, .sl 4 0 len cap]], 2, 1, true⟩ :: ⟨els, 3, cap, true⟩ :: r) [(3, 0, 1)] = A :: B :: C :: ⟨[[y, .l 3 els]], 2, 1, true⟩ :: Blk.dead :: r := by
  simp [folds, foldC, foldK, rdC, rdB, refB, ownOf, elsB, wrH, wrB, wrE, wrL, shrinks, shr1, gcL, hl, hn]
theorem optM_pc {mc mc' : Mc} {fr fr' : Fr} {o : Option (List Val)} (h : optM mc fr o = (mc', .ok fr')) : fr'.pc = fr.pc := by
  cases o with
  | none => cases h
  | some st => cases h; rfl
theorem doM_pc {run : IFun → List Val → Mc → Did Val} {fs : List IFun} {d : Nat} {x : Ins} {fr fr' : Fr} {mc mc' : Mc} (h6 : x.op ≠ 6) (h7 : x.op ≠ 7) (h : doM run fs d x fr mc = (mc', .ok fr')) : fr'.pc = fr.pc := by
  unfold doM at h
  split at h
  · exact optM_pc h
  split at h
  · exact optM_pc h
  split at h
  · exact optM_pc h
  split at h
  · unfold keepM at h
    split at h
    · cases h
    split at h
    · cases h; rfl
    · cases h
  split at h
  · unfold primM at h
    split at h
    · split at h
      · cases h
      · split at h
        · cases h
        · exact optM_pc h
    · cases h
  split at h
  · unfold callM at h
    split at h
    · cases h
    split at h
    · cases h
    split at h
    · cases h
    split at h
    · cases h
    · exact optM_pc h
  split at h
  · exact optM_pc h
  · cases h; rfl
structure LS where
  k : Nat
  pc : Int
  fr : Fr
  mc : Mc
  o : Option Stop
  rs : List Int
  es : List Int
def LOk (m : Img) (fuel n d : Nat) (f : IFun) (R : Did Val) (s : LS) : Prop := s.rs.length = m.funs.length ∧ s.es.length = m.funs.length ∧ match s.o with
  | none => s.pc = s.fr.pc ∧ s.k ≤ n ∧ fuel - s.mc.steps ≤ s.k ∧ loopM m.funs fuel s.k d f s.fr s.mc = R ∧ FrOk s.fr ∧ McOk fuel s.mc ∧ s.fr.slots.length ≤ 1000
  | some e => R = (s.mc, .error e)
def LMu (s : LS) : Nat := match s.o with
  | none => s.k + 1
  | some _ => 0
theorem spec43 (m : Img) (fuel : Nat) (hfu : fuel ≤ 400000) (hok : m.funs.all okF = true) (hml : m.funs.length ≤ 72) : ∀ n d : Nat, d ≤ 30 → SRun m fuel d n (enterM (loopM m.funs fuel n d)) := by
  intro n
  induction n using Nat.strongRecOn with
  | _ n ih =>
  intro d hd g f vs mc rs es hg hvs hvl hm hn hrs hes
  refine calls_of_run Tryz.func43 rfl (by kernel_rfl) (by kernel_rfl) (by simp) 1000 ?_
  have hof := List.all_eq_true.1 hok f (List.mem_of_getElem? hg)
  obtain ⟨ft, fs0, fs1, fc, fa, fi⟩ := okF_facts hof
  obtain ⟨z, hz⟩ : ∃ z : Nat, f.slots = z := ⟨f.slots.toNat, by omega⟩
  have gl : g < m.funs.length := (List.getElem?_eq_some_iff.1 hg).1
  have p0 : (0 : Int) ≤ g := by omega
  have p1 : (g : Int) < m.funs.length := by omega
  have hgv : (m.funs.map fnV)[g]? = some (fnV f) := by rw [List.getElem?_map, hg]; rfl
  simp only [fnV] at hgv
  have pr : (g : Int) < rs.length := by omega
  obtain ⟨w, hw⟩ : ∃ w, rs[g]? = some w := ⟨rs[g]'(by omega), List.getElem?_eq_getElem (by omega)⟩
  have hwv : (rs.map iV)[g]? = some (iV w) := by rw [List.getElem?_map, hw]; rfl
  simp only [iV] at hwv
  have b5 : (40 : Int) * z ≤ 140737488355328 := by omega
  have b6 : (z : Int) ≤ 4611686018427387904 := by omega
  have b4 : (0 : Int) ≤ z := by omega
  simp +contextual (maxSteps := 2000000) (disch := ((try unfold LIM at *); omega)) only [↓bcT, ↓bcF, WA, simprocAttr, wrI, pB, List.length_map, p0, p1, hgv, hz]
  refine DrawThen.of 1000 [0] (.old 0 (.old 1 (.old 2 (.old 4 (.old 5 (.old 6 (.old 7 (.old 9 (.or 3 (.go 8 (.new 10 (.go 11 (.new 12 (.new 13 (.go 14 .done)))))) (.go 8 (.new 10 (.or 3 (.go 11 (.new 12 (.new 13 (.go 14 .done)))) (.go 11 (.new 12 (.go 3 (.new 13 (.go 14 .done))))))))))))))))) (panFree_body _ _) (by kernel_rfl) (by kernel_rfl) (by kernel_rfl) ?_
  simp +contextual (maxSteps := 2000000) (disch := ((try unfold LIM at *); omega)) only [↓bcT, ↓bcF, WA, simprocAttr, wrI, List.length_map, p0, pr, hwv]
  repeat' apply And.intro
  all_goals
    intro cap hc
    repeat' (first | exact ⟨b4, b5, b6⟩ | refine And.intro ?_ ?_)
  all_goals
    have hrs' : (rs.set g (wr (w + 1))).length = m.funs.length := by simpa using hrs
    have hset : (rs.map iV).set g [V.s (.int .i64 (wr (w + 1)))] = (rs.set g (wr (w + 1))).map iV := by rw [List.map_set]; rfl
    generalize rs.set g (wr (w + 1)) = rs2 at *
    have hz0 : (List.replicate z zeroE).map valV = List.replicate z [V.s (.int .i64 0), .s (.int .i64 0), .z] := by rw [List.map_replicate]; rfl
    refine LoopThen.arr (Arr.nilCell (b := 5) (m := 3) (els' := [[.sl 6 0 0 0, .sl 4 0 z z]]) rfl ⟨⟨.inr ⟨rfl, rfl⟩, .inl rfl, trivial⟩, trivial⟩) (fun _ => rfl) ?_
    simp +contextual (maxSteps := 2000000) (disch := ((try unfold LIM at *); omega)) only [↓bcT, ↓bcF, WA, simprocAttr, wrI, hset]
    refine LoopThen.ownF 1 (ι := Nat) (fun i => i ≤ vs.length ∧ i ≤ z)
      (fun i => [(0, .ptr 0 0 0), (1, .s (.int .i64 g)), (2, .f 3 (vs.map valV)), (3, .s (.int .i64 d)), (8, .ptr 1 0 0), (9, .ptr 2 0 0), (10, .ptr 3 0 0), (11, .s (.int .i64 i))])
      (fun i => [pB m fuel mc none rs2 es, ⟨[[.s (.int .i64 0), .s (.int .i64 0), .z]], 3, 1, true⟩, ⟨[fnV f], 6, 1, true⟩, fS ⟨0, [], vs.take i ++ List.replicate (z - i) zeroE⟩]) (fun i => vs.length - i) 1000 1000
      ⟨0, ⟨Nat.zero_le _, Nat.zero_le _⟩, [(0, 0, 9), (5, 0, 0), (5, 0, 1)], [0, 1, 2, 5], ⟨by simp, rfl⟩, ?_, by simp +contextual (maxSteps := 2000000) (disch := ((try unfold LIM at *); omega)) only [↓bcT, ↓bcF, WA, simprocAttr, wrI, folds_length]⟩ ?_
    · rw [foldF (by simp; omega) (nrs_map iV_nr _) (by simp) (by rw [← hz0]; exact nrs_map valV_nr _)]
      exact ⟨.inl ⟨rfl, rfl⟩, .inl ⟨rfl, rfl⟩, .inl ⟨rfl, by simp only [fnV, hz]; rfl⟩, .inl ⟨fS_nr _, by simp [fS, ← hz0]⟩, trivial⟩
    · rintro i ⟨q1, q2⟩
      by_cases c : i < vs.length
      · have c' : (i : Int) < vs.length := by omega
        by_cases c2 : z ≤ i
        · have c2' : (z : Int) ≤ i := by omega
          have e : enterM (loopM m.funs fuel n d) f vs mc = wrongM mc := by unfold enterM; rw [if_pos (by omega)]
          rw [e]
          simp +contextual (maxSteps := 2000000) (disch := ((try unfold LIM at *); omega)) only [↓bcT, ↓bcF, WA, simprocAttr, wrI, fnV, List.length_map, c', hz, c2']
          intros
          refine CallThen.stop (m0 := m) (fuel := fuel) (mc := mc) (o := none) (rs := rs2) (es := es) _ rfl rfl 1000 ?_
          simp +contextual (maxSteps := 2000000) (disch := ((try unfold LIM at *); omega)) only [↓bcT, ↓bcF, WA, simprocAttr, wrI, stopO]
          exact spv_err _ hrs' hes
        · have c2' : ¬ (z : Int) ≤ i := by omega
          have pi : (0 : Int) ≤ i := by omega
          obtain ⟨v, hv⟩ : ∃ v, vs[i]? = some v := ⟨vs[i], List.getElem?_eq_getElem c⟩
          have hvv : (vs.map valV)[i]? = some (valV v) := by rw [List.getElem?_map, hv]; rfl
          have hsl : (vs.take i ++ List.replicate (z - i) zeroE).length = z := by simp; omega
          have hse : ((vs.take i ++ List.replicate (z - i) zeroE).map valV).set i (valV v) = (vs.take (i + 1) ++ List.replicate (z - (i + 1)) zeroE).map valV := by
            rw [← List.map_set, List.set_append_right _ _ (by rw [List.length_take]; exact Nat.min_le_left _ _), List.take_add_one, hv]
            obtain ⟨j, hj⟩ : ∃ j, z - i = j + 1 := ⟨z - i - 1, by omega⟩
            have e1 : z - (i + 1) = j := by omega
            have e2 : i - (vs.take i).length = 0 := by simp; omega
            rw [hj, e1, e2, List.replicate_succ, List.set_cons_zero]
            simp
          have hge : ∃ u, ((vs.take i ++ List.replicate (z - i) zeroE).map valV)[i]? = some (valV u) := ⟨(vs.take i ++ List.replicate (z - i) zeroE)[i]'(by omega), by rw [List.getElem?_map, List.getElem?_eq_getElem (by omega)]; rfl⟩
          obtain ⟨u, hu⟩ := hge
          have pz : (i : Int) < z := by omega
          simp only [valV] at hvv hse hu
          simp +contextual (maxSteps := 2000000) (disch := ((try unfold LIM at *); omega)) only [↓bcT, ↓bcF, WA, simprocAttr, wrI, fnV, List.length_map, c', hz, c2']
          intros
          generalize hsg : vs.take i ++ List.replicate (z - i) zeroE = sg at *
          refine DrawThen.of 1000 [3] (.old 0 (.old 1 (.old 2 (.old 4 (.old 5 (.old 6 (.old 7 (.old 8 (.go 3 (.new 9 (.go 10 .done))))))))))) (panFree_loopN (panFree_body _ _)) (by kernel_rfl) (by kernel_rfl) (by kernel_rfl) ?_
          simp +contextual (maxSteps := 2000000) (disch := ((try unfold LIM at *); omega)) only [↓bcT, ↓bcF, WA, simprocAttr, wrI, fS, List.length_map, c', pi, pz, hvv, hu, hse, hsl, cast_succ, rowV_cellOk, rowV_nr, rowV_rn]
          repeat' apply And.intro
          all_goals
            intro cap3 hc3
            refine ⟨i + 1, ⟨⟨by omega, by omega⟩, by omega⟩, [(3, 0, 1)], [0, 1, 2, 3], ⟨by simp, rfl⟩, ?_, ⟨rfl, rfl, rfl, rfl, rfl, rfl, rfl, rfl, trivial⟩⟩
            rw [foldS (by simp; omega) (nrs_map valV_nr _)]
            exact ⟨.inl ⟨rfl, rfl⟩, .inl ⟨rfl, rfl⟩, .inl ⟨rfl, rfl⟩, .inl ⟨rfl, rfl⟩, trivial⟩
      · have ei : i = vs.length := by omega
        subst ei
        have c' : ¬ (vs.length : Int) < vs.length := by omega
        have hb : enterM (loopM m.funs fuel n d) f vs mc = loopM m.funs fuel n d f ⟨0, [], vs ++ List.replicate (z - vs.length) zeroE⟩ mc := by
          unfold enterM beginM
          rw [if_neg (by omega), show (f.slots - (vs.length : Int)).toNat = z - vs.length by omega]
        have hsl : (vs ++ List.replicate (z - vs.length) zeroE).length ≤ 1000 := by simp; omega
        have hso : ∀ v ∈ vs ++ List.replicate (z - vs.length) zeroE, VOk v := fun v q => by
          rcases List.mem_append.1 q with q | q
          · exact hvs v q
          · rw [List.eq_of_mem_replicate q]; exact VOk_zero
        rw [hb]
        simp +contextual (maxSteps := 2000000) (disch := ((try unfold LIM at *); omega)) only [↓bcT, ↓bcF, WA, simprocAttr, wrI, List.length_map, c', List.take_length]
        intros
        generalize vs ++ List.replicate (z - vs.length) zeroE = sl at *
        generalize hR : loopM m.funs fuel n d f ⟨0, [], sl⟩ mc = R at *
        refine LoopThen.ownF 1 (ι := LS) (LOk m fuel n d f R) (fun s => [(0, .ptr 0 0 0), (1, .s (.int .i64 g)), (3, .s (.int .i64 d)), (8, .ptr 1 0 0), (9, .ptr 2 0 0), (10, .ptr 3 0 0), (12, .s (.int .i64 s.pc))])
          (fun s => [pB m fuel s.mc s.o s.rs s.es, ⟨[[.s (.int .i64 0), .s (.int .i64 0), .z]], 3, 1, true⟩, ⟨[fnV f], 6, 1, true⟩, fS s.fr]) LMu 1000 1000
          ⟨⟨n, 0, ⟨0, [], sl⟩, mc, none, rs2, es⟩, ⟨hrs', hes, rfl, Nat.le_refl _, hn, hR, ⟨by simp, fun v q => by simp at q, hso⟩, hm, hsl⟩, [], [0, 1, 2, 3], ⟨by simp, rfl⟩, ⟨.inl ⟨rfl, rfl⟩, .inl ⟨rfl, rfl⟩, .inl ⟨rfl, rfl⟩, .inl ⟨rfl, rfl⟩, trivial⟩, by simp +contextual (maxSteps := 2000000) (disch := ((try unfold LIM at *); omega)) only [↓bcT, ↓bcF, WA, simprocAttr, wrI]⟩ ?_
        rintro ⟨k, pc, fr, mc, o, rs, es⟩ ⟨l1, l2, l3⟩
        simp only at l1 l2
        cases o with
        | some e =>
          simp only at l3
          rw [l3]
          simp +contextual (maxSteps := 2000000) (disch := ((try unfold LIM at *); omega)) only [↓bcT, ↓bcF, WA, simprocAttr, wrI, pB, Option.isSome_some]
          exact spv_err (rs := rs) (es := es) _ l1 l2
        | none =>
          obtain ⟨kp, k1, k2, k3, k4, k5, k6⟩ := l3
          simp only at kp k1 k2 k3 k4 k5 k6
          subst kp
          cases hcx : f.code[fr.pc]? with
          | none =>
            have c5 : (f.code.length : Int) ≤ fr.pc := by have := List.getElem?_eq_none_iff.1 hcx; omega
            have hw : R = wrongM mc := by rw [← k3]; cases k <;> simp only [loopM, hcx]
            rw [hw]
            simp +contextual (maxSteps := 2000000) (disch := ((try unfold LIM at *); omega)) only [↓bcT, ↓bcF, WA, simprocAttr, wrI, pB, fnV, Option.isSome_none, List.length_map, c5]
            intros
            refine CallThen.stop (m0 := m) (fuel := fuel) (mc := mc) (o := none) (rs := rs) (es := es) _ rfl rfl 1000 ?_
            simp +contextual (maxSteps := 2000000) (disch := ((try unfold LIM at *); omega)) only [↓bcT, ↓bcF, WA, simprocAttr, wrI, stopO]
            exact spv_err _ l1 l2
          | some x =>
            have c5 : ¬ (f.code.length : Int) ≤ fr.pc := by have := (List.getElem?_eq_some_iff.1 hcx).1; omega
            simp +contextual (maxSteps := 2000000) (disch := ((try unfold LIM at *); omega)) only [↓bcT, ↓bcF, WA, simprocAttr, wrI, pB, fnV, Option.isSome_none, List.length_map, c5]
            intros
            refine CallThen.of 1000 (CallsV.frameL (spec58 m fuel fr mc rs es k4.1 k5 hfu) [0, 3] _ (by simp) ⟨.inl ⟨p_nr .., rfl⟩, .inl ⟨fS_nr _, rfl⟩, trivial⟩ rfl) fun res h' ⟨r, h1, g1, g2, g3, g4⟩ => ?_
            subst g3; subst g4
            by_cases c6 : mc.steps = fuel
            · rw [if_pos c6] at g1
              obtain ⟨rfl, rfl⟩ := g1
              have hw : R = (mc, .error (0, 0)) := by
                rw [← k3]
                cases k with
                | zero => simp only [loopM, hcx]
                | succ k => simp only [loopM, hcx, c6, if_true]
              rw [hw]
              show Run _ _ _ _ _ _ (upo _ (.s (.bool false)) _) (setAll _ [0, 3] [rnB _ (pB m fuel mc (some (0, 0)) rs es), rnB _ (fS fr)])
              rw [rnB_p, rnB_fS]
              simp +contextual (maxSteps := 2000000) (disch := ((try unfold LIM at *); omega)) only [↓bcT, ↓bcF, WA, simprocAttr, wrI]
              exact spv_err _ l1 l2
            · rw [if_neg c6] at g1
              obtain ⟨rfl, rfl⟩ := g1
              show Run _ _ _ _ _ _ (upo _ (.s (.bool true)) _) (setAll _ [0, 3] [rnB _ (pB m fuel ⟨mc.steps + 1, mc.out, mc.high ++ [(fr.stack.length : Int)]⟩ none rs es), rnB _ (fS fr)])
              rw [rnB_p, rnB_fS]
              obtain ⟨k', rfl⟩ : ∃ k', k = k' + 1 := ⟨k - 1, by have := k5.1; omega⟩
              have pl : fr.pc < f.code.length := (List.getElem?_eq_some_iff.1 hcx).1
              have hxv : (f.code.map insV)[fr.pc]? = some (insV x) := by rw [List.getElem?_map, hcx]; rfl
              have hxb : insB x = true := List.all_eq_true.1 fi x (List.mem_of_getElem? hcx)
              have d0 : (0 : Int) ≤ fr.pc := by omega
              have d1 : (fr.pc : Int) < f.code.length := by omega
              simp only [insV] at hxv
              have hl3 : mc.high.length = mc.steps := k5.2.2
              have eR : R = if x.op = 9 then backM f.typ fr.stack ⟨mc.steps + 1, mc.out, mc.high ++ [(fr.stack.length : Int)]⟩ else match doM (enterM (loopM m.funs fuel k' (d + 1))) m.funs d x ⟨fr.pc + 1, fr.stack, fr.slots⟩ ⟨mc.steps + 1, mc.out, mc.high ++ [(fr.stack.length : Int)]⟩ with
                  | (mc', .error e) => (mc', .error e)
                  | (mc', .ok fr') => loopM m.funs fuel k' d f fr' mc' := by
                rw [← k3]; simp only [loopM, hcx, c6, if_false]; rfl
              have m1 : McOk fuel ⟨mc.steps + 1, mc.out, mc.high ++ [(fr.stack.length : Int)]⟩ := ⟨by have := k5.1; dsimp only; omega, by have := k5.2.1; dsimp only; omega, by simp only [List.length_append, List.length_cons, List.length_nil]; omega⟩
              have hn' : fuel - (mc.steps + 1) ≤ k' := by omega
              have pe : (g : Int) < es.length := by omega
              obtain ⟨w2, hw2⟩ : ∃ w2, es[g]? = some w2 := ⟨es[g]'(by omega), List.getElem?_eq_getElem (by omega)⟩
              have hwv2 : (es.map iV)[g]? = some (iV w2) := by rw [List.getElem?_map, hw2]; rfl
              simp only [iV] at hwv2
              have hset2 : (es.map iV).set g [V.s (.int .i64 (wr (w2 + 1)))] = (es.set g (wr (w2 + 1))).map iV := by rw [List.map_set]; rfl
              have l2' : (es.set g (wr (w2 + 1))).length = m.funs.length := by simpa using l2
              have hle2 : (es.set g (wr (w2 + 1))).length = es.length := by simp
              generalize es.set g (wr (w2 + 1)) = es2 at *
              generalize hmc1 : (⟨mc.steps + 1, mc.out, mc.high ++ [(fr.stack.length : Int)]⟩ : Mc) = mc1 at *
              have hst1 : mc1.steps = mc.steps + 1 := by rw [← hmc1]
              have ob : mc.out.length < mc1.steps ∧ mc1.out = mc.out := by rw [← hmc1]; have := k5.2.1; exact ⟨by dsimp only; omega, rfl⟩
              by_cases o9 : x.op = 9
              · rw [if_pos o9] at eR
                simp +contextual (maxSteps := 2000000) (disch := ((try unfold LIM at *); omega)) only [↓bcT, ↓bcF, WA, simprocAttr, wrI, pB, List.length_map, d0, d1, hxv, cast_succ, o9]
                intros
                refine DrawThen.of 1000 [0] (.old 0 (.old 1 (.old 2 (.old 4 (.old 5 (.old 6 (.old 7 (.old 9 (.or 3 (.go 8 (.new 10 (.go 11 (.new 12 (.new 13 (.go 14 .done)))))) (.go 8 (.new 10 (.or 3 (.go 11 (.new 12 (.new 13 (.go 14 .done)))) (.go 11 (.new 12 (.go 3 (.new 13 (.go 14 .done))))))))))))))))) (panFree_loopN (panFree_body _ _)) (by kernel_rfl) (by kernel_rfl) (by kernel_rfl) ?_
                simp +contextual (maxSteps := 2000000) (disch := ((try unfold LIM at *); omega)) only [↓bcT, ↓bcF, WA, simprocAttr, wrI, List.length_map, p0, pe, hwv2, hset2, o9]
                repeat' apply And.intro
                all_goals
                  intro cap hc
                  repeat' refine And.intro ?_ ?_
                  all_goals
                    refine CallThen.folded [(0, 0, 10)] _ (foldE (by simp; omega) (nrs_map iV_nr es2)) (m := 0) ?_
                    refine CallThen.of 1000 (CallsV.frameL (spec59 m fuel fr mc1 rs es2 f.typ (typ_nz ft) k4.1) [0, 3] _ (by simp) ⟨.inl ⟨p_nr .., rfl⟩, .inl ⟨fS_nr _, rfl⟩, trivial⟩ rfl) fun res h' ⟨r, h1, ⟨fr', g1⟩, g2, g3, g4⟩ => ?_
                    subst g3; subst g4
                    rcases hq : backM f.typ fr.stack mc1 with ⟨mc', e | v⟩
                    · rw [hq] at g1 eR
                      obtain ⟨rfl, rfl⟩ := g1
                      rw [eR]
                      show Run _ _ _ _ _ _ (upo _ (rnV _ (.agg (valV zeroE))) _) (setAll _ [0, 3] [rnB _ (pB m fuel mc' (some e) rs es2), rnB _ (fS fr')])
                      rw [rnB_p, rnB_fS, valV_rnV]
                      simp +contextual (maxSteps := 2000000) (disch := ((try unfold LIM at *); omega)) only [↓bcT, ↓bcF, WA, simprocAttr, wrI, valV_0]
                      exact spv_err _ l1 l2'
                    · rw [hq] at g1 eR
                      obtain ⟨rfl, rfl⟩ := g1
                      rw [eR]
                      show Run _ _ _ _ _ _ (upo _ (rnV _ (.agg (valV v))) _) (setAll _ [0, 3] [rnB _ (pB m fuel mc' none rs es2), rnB _ (fS fr')])
                      rw [rnB_p, rnB_fS, valV_rnV]
                      simp +contextual (maxSteps := 2000000) (disch := ((try unfold LIM at *); omega)) only [↓bcT, ↓bcF, WA, simprocAttr, wrI, valV, rowV_cellOk, rowV_nr, rowV_rn]
                      exact spv_ok (v := v) _ l1 l2'
              rw [if_neg o9] at eR
              have ok := doM_ok (fs := m.funs) (d := d) (x := x) (fr := ⟨fr.pc + 1, fr.stack, fr.slots⟩) (enterM_ok (fun g fr mc => loopM_ok m.funs fuel k' (d + 1) g fr mc)) k4 m1 (by rw [ob.2]; exact ob.1)
              obtain ⟨h1a, h2a, h3a⟩ := insB_in hxb
              by_cases o6 : x.op = 6
              · obtain ⟨a, ha⟩ : ∃ a : Nat, x.a = a := by
                  rcases h1a with q | q | ⟨a, q, _⟩
                  · omega
                  · omega
                  · exact ⟨a, q⟩
                have e6 : doM (enterM (loopM m.funs fuel k' (d + 1))) m.funs d x ⟨fr.pc + 1, fr.stack, fr.slots⟩ mc1 = (mc1, .ok ⟨a, fr.stack, fr.slots⟩) := by simp [doM, o6, ha]
                rw [e6] at eR
                simp +contextual (maxSteps := 2000000) (disch := ((try unfold LIM at *); omega)) only [↓bcT, ↓bcF, WA, simprocAttr, wrI, pB, List.length_map, d0, d1, hxv, cast_succ, o6, ha]
                intros
                refine DrawThen.of 1000 [0] (.old 0 (.old 1 (.old 2 (.old 4 (.old 5 (.old 6 (.old 7 (.old 9 (.or 3 (.go 8 (.new 10 (.go 11 (.new 12 (.new 13 (.go 14 .done)))))) (.go 8 (.new 10 (.or 3 (.go 11 (.new 12 (.new 13 (.go 14 .done)))) (.go 11 (.new 12 (.go 3 (.new 13 (.go 14 .done))))))))))))))))) (panFree_loopN (panFree_body _ _)) (by kernel_rfl) (by kernel_rfl) (by kernel_rfl) ?_
                simp +contextual (maxSteps := 2000000) (disch := ((try unfold LIM at *); omega)) only [↓bcT, ↓bcF, WA, simprocAttr, wrI, List.length_map, p0, pe, hwv2, hset2, o6, ha]
                repeat' apply And.intro
                all_goals
                  intro cap hc
                  repeat' refine And.intro ?_ ?_
                  all_goals
                    refine ⟨⟨k', a, ⟨a, fr.stack, fr.slots⟩, mc1, none, rs, es2⟩, ⟨⟨l1, l2', rfl, by show k' ≤ n; omega, by show fuel - mc1.steps ≤ k'; omega, eR.symm, ⟨k4.1, k4.2.1, k4.2.2⟩, m1, k6⟩, by show k' + 1 < k' + 1 + 1; omega⟩, [(0, 0, 10)], [0, 1, 2, 3], ⟨by simp, rfl⟩, ?_, ⟨rfl, rfl, rfl, rfl, rfl, rfl, rfl, trivial⟩⟩
                    rw [foldE (by simp; omega) (nrs_map iV_nr es2)]
                    exact ⟨.inl ⟨rfl, rfl⟩, .inl ⟨rfl, rfl⟩, .inl ⟨rfl, rfl⟩, .inl ⟨rfl, rfl⟩, trivial⟩
              by_cases o7 : x.op = 7
              · obtain ⟨a, ha⟩ : ∃ a : Nat, x.a = a := by
                  rcases h1a with q | q | ⟨a, q, _⟩
                  · omega
                  · omega
                  · exact ⟨a, q⟩
                have e7 : doM (enterM (loopM m.funs fuel k' (d + 1))) m.funs d x ⟨fr.pc + 1, fr.stack, fr.slots⟩ mc1 = toM mc1 (unlessM ⟨fr.pc + 1, fr.stack, fr.slots⟩ a) := by simp [doM, o7, ha]
                rw [e7] at eR ok
                simp +contextual (maxSteps := 2000000) (disch := ((try unfold LIM at *); omega)) only [↓bcT, ↓bcF, WA, simprocAttr, wrI, pB, List.length_map, d0, d1, hxv, cast_succ, o7, ha]
                intros
                have D := spec60 m fuel ⟨fr.pc + 1, fr.stack, fr.slots⟩ mc1 rs es2 a k4.1
                refine DrawThen.of 1000 [0] (.old 0 (.old 1 (.old 2 (.old 4 (.old 5 (.old 6 (.old 7 (.old 9 (.or 3 (.go 8 (.new 10 (.go 11 (.new 12 (.new 13 (.go 14 .done)))))) (.go 8 (.new 10 (.or 3 (.go 11 (.new 12 (.new 13 (.go 14 .done)))) (.go 11 (.new 12 (.go 3 (.new 13 (.go 14 .done))))))))))))))))) (panFree_loopN (panFree_body _ _)) (by kernel_rfl) (by kernel_rfl) (by kernel_rfl) ?_
                simp +contextual (maxSteps := 2000000) (disch := ((try unfold LIM at *); omega)) only [↓bcT, ↓bcF, WA, simprocAttr, wrI, List.length_map, p0, pe, hwv2, hset2, o7, ha]
                repeat' apply And.intro
                all_goals
                  intro cap hc
                  repeat' refine And.intro ?_ ?_
                  all_goals
                    refine CallThen.folded [(0, 0, 10)] _ (foldE (by simp; omega) (nrs_map iV_nr es2)) (m := 0) ?_
                    refine CallThen.of 1000 (CallsV.frameL D [0, 3] _ (by simp) ⟨.inl ⟨p_nr .., rfl⟩, .inl ⟨fS_nr _, rfl⟩, trivial⟩ rfl) fun res h' ⟨r, h1, ⟨fr', g4⟩, g5, g6, g7⟩ => ?_
                    subst g6; subst g7
                    rcases hq : toM mc1 (unlessM ⟨fr.pc + 1, fr.stack, fr.slots⟩ a) with ⟨mc', e | fr2⟩
                    · rw [hq] at g4 eR
                      obtain ⟨y, rfl, rfl⟩ := g4
                      show Run _ _ _ _ _ _ (upo _ (.s (.int .i64 y)) _) (setAll _ [0, 3] [rnB _ (pB m fuel mc' (some e) rs es2), rnB _ (fS fr')])
                      rw [rnB_p, rnB_fS]
                      simp +contextual (maxSteps := 2000000) (disch := ((try unfold LIM at *); omega)) only [↓bcT, ↓bcF, WA, simprocAttr, wrI]
                      refine ⟨⟨k', y, fr', mc', some e, rs, es2⟩, ⟨⟨l1, l2', eR⟩, by show 0 < k' + 1 + 1; omega⟩, [], [0, 1, 2, 3], ⟨by simp, rfl⟩, ⟨.inl ⟨p_nr .., rfl⟩, .inl ⟨rfl, rfl⟩, .inl ⟨rfl, rfl⟩, .inl ⟨fS_nr _, rfl⟩, trivial⟩, ⟨rfl, rfl, rfl, rfl, rfl, rfl, rfl, trivial⟩⟩
                    · rw [hq] at g4 eR ok
                      obtain ⟨rfl, rfl, rfl⟩ := g4
                      show Run _ _ _ _ _ _ (upo _ (.s (.int .i64 fr'.pc)) _) (setAll _ [0, 3] [rnB _ (pB m fuel mc' none rs es2), rnB _ (fS fr')])
                      rw [rnB_p, rnB_fS]
                      have okk := ok.2.2 _ rfl
                      have st2 := ok.2.1
                      simp +contextual (maxSteps := 2000000) (disch := ((try unfold LIM at *); omega)) only [↓bcT, ↓bcF, WA, simprocAttr, wrI]
                      refine ⟨⟨k', fr'.pc, fr', mc', none, rs, es2⟩, ⟨⟨l1, l2', rfl, by show k' ≤ n; omega, by show fuel - mc'.steps ≤ k'; dsimp only at st2; omega, eR.symm, okk.1, ok.1, by show fr'.slots.length ≤ 1000; have := okk.2; dsimp only at this; omega⟩, by show k' + 1 < k' + 1 + 1; omega⟩, [], [0, 1, 2, 3], ⟨by simp, rfl⟩, ⟨.inl ⟨p_nr .., rfl⟩, .inl ⟨rfl, rfl⟩, .inl ⟨rfl, rfl⟩, .inl ⟨fS_nr _, rfl⟩, trivial⟩, ⟨rfl, rfl, rfl, rfl, rfl, rfl, rfl, trivial⟩⟩
              · simp +contextual (maxSteps := 2000000) (disch := ((try unfold LIM at *); omega)) only [↓bcT, ↓bcF, WA, simprocAttr, wrI, pB, List.length_map, d0, d1, hxv, cast_succ, o9, o6, o7]
                intros
                have D := spec61 m fuel ⟨fr.pc + 1, fr.stack, fr.slots⟩ mc1 rs es2 x d (enterM (loopM m.funs fuel k' (d + 1))) k' (fun hd30 => ih k' (by omega) (d + 1) (by omega)) hd (by omega) k4 k6 m1 hfu hok hml l1 l2' hxb o9 o6 o7
                refine DrawThen.of 1000 [0] (.old 0 (.old 1 (.old 2 (.old 4 (.old 5 (.old 6 (.old 7 (.old 9 (.or 3 (.go 8 (.new 10 (.go 11 (.new 12 (.new 13 (.go 14 .done)))))) (.go 8 (.new 10 (.or 3 (.go 11 (.new 12 (.new 13 (.go 14 .done)))) (.go 11 (.new 12 (.go 3 (.new 13 (.go 14 .done))))))))))))))))) (panFree_loopN (panFree_body _ _)) (by kernel_rfl) (by kernel_rfl) (by kernel_rfl) ?_
                simp +contextual (maxSteps := 2000000) (disch := ((try unfold LIM at *); omega)) only [↓bcT, ↓bcF, WA, simprocAttr, wrI, List.length_map, p0, pe, hwv2, hset2, o9, o6, o7]
                repeat' apply And.intro
                all_goals
                  intro cap hc
                  repeat' refine And.intro ?_ ?_
                  all_goals
                    refine CallThen.folded [(0, 0, 10)] _ (foldE (by simp; omega) (nrs_map iV_nr es2)) (m := 0) ?_
                    refine CallThen.of 1000 (CallsV.frameL D [0, 3] _ (by simp) ⟨.inl ⟨p_nr .., rfl⟩, .inl ⟨fS_nr _, rfl⟩, trivial⟩ rfl) fun res h' ⟨r, h1, ⟨rs', es', fr', g1, g2, g3, g4⟩, g5, g6, g7⟩ => ?_
                    subst g3; subst g6; subst g7
                    rcases hq : doM (enterM (loopM m.funs fuel k' (d + 1))) m.funs d x ⟨fr.pc + 1, fr.stack, fr.slots⟩ mc1 with ⟨mc', e | fr2⟩
                    · rw [hq] at g4 eR
                      simp only at g4
                      subst g4
                      show Run _ _ _ _ _ _ _ (setAll _ [0, 3] [rnB _ (pB m fuel mc' (some e) rs' es'), rnB _ (fS fr')])
                      rw [rnB_p, rnB_fS]
                      simp +contextual (maxSteps := 2000000) (disch := ((try unfold LIM at *); omega)) only [↓bcT, ↓bcF, WA, simprocAttr, wrI]
                      refine ⟨⟨k', (fr.pc + 1 : Nat), fr', mc', some e, rs', es'⟩, ⟨⟨g1, g2, eR⟩, by show 0 < k' + 1 + 1; omega⟩, [], [0, 1, 2, 3], ⟨by simp, rfl⟩, ⟨.inl ⟨p_nr .., rfl⟩, .inl ⟨rfl, rfl⟩, .inl ⟨rfl, rfl⟩, .inl ⟨fS_nr _, rfl⟩, trivial⟩, ⟨rfl, rfl, rfl, rfl, rfl, rfl, rfl, trivial⟩⟩
                    · rw [hq] at g4 eR ok
                      obtain ⟨rfl, rfl⟩ := g4
                      show Run _ _ _ _ _ _ _ (setAll _ [0, 3] [rnB _ (pB m fuel mc' none rs' es'), rnB _ (fS fr')])
                      rw [rnB_p, rnB_fS]
                      have okk := ok.2.2 _ rfl
                      have st2 := ok.2.1
                      have hpc := doM_pc o6 o7 hq
                      simp +contextual (maxSteps := 2000000) (disch := ((try unfold LIM at *); omega)) only [↓bcT, ↓bcF, WA, simprocAttr, wrI]
                      refine ⟨⟨k', (fr.pc + 1 : Nat), fr', mc', none, rs', es'⟩, ⟨⟨g1, g2, by show ((fr.pc + 1 : Nat) : Int) = fr'.pc; rw [hpc], by show k' ≤ n; omega, by show fuel - mc'.steps ≤ k'; dsimp only at st2; omega, eR.symm, okk.1, ok.1, by show fr'.slots.length ≤ 1000; have := okk.2; dsimp only at this; omega⟩, by show k' + 1 < k' + 1 + 1; omega⟩, [], [0, 1, 2, 3], ⟨by simp, rfl⟩, ⟨.inl ⟨p_nr .., rfl⟩, .inl ⟨rfl, rfl⟩, .inl ⟨rfl, rfl⟩, .inl ⟨fS_nr _, rfl⟩, trivial⟩, ⟨rfl, rfl, rfl, rfl, rfl, rfl, rfl, trivial⟩⟩
end Go.Proofs.YtlhkfjannhhcbaaGreatDoor
/- part N13 -/
set_option linter.unusedVariables false
set_option linter.unusedSimpArgs false
set_option maxRecDepth 100000
set_option maxHeartbeats 4000000
namespace Go.Proofs.YtlhkfjannhhcbaaGreatDoor
open Go Go.W Go.RowKit
def pI (m : Img) (L : Int) (mc : Mc) (o : Option Stop) (rs es : List Int) : Blk := ⟨[[.f 6 (m.funs.map fnV), .f 1 (m.mains.map iV), .s (.int .i64 L), .s (.int .i64 (ovE o)), .s (.int .i64 (ovT o)), .l 1 (mc.out.map iV), .s (.int .i64 mc.steps), .s (.bool o.isSome), .l 1 (mc.high.map iV), .l 1 (rs.map iV), .l 1 (es.map iV)]], 11, 1, true⟩
theorem pI_nr (m : Img) (L : Int) (mc : Mc) (o : Option Stop) (rs es : List Int) : nrs (pI m L mc o rs es).els = true := rfl
theorem rnB_pI (ρ : Nat → Nat) (m : Img) (L : Int) (mc : Mc) (o : Option Stop) (rs es : List Int) : rnB ρ (pI m L mc o rs es) = pI m L mc o rs es := nrs_rn _ (pI_nr ..)
theorem edit42I (m : Img) (L : Int) (mc : Mc) (o : Option Stop) (rs es : List Int) (e t : Int) : EditV C 42 [.ptr 0 0 0, .s (.int .i64 e), .s (.int .i64 t)] [pI m L mc o rs es] (.tup []) [pI m L mc (stopO o (e, t)) rs es] := by
  refine ⟨fun _ => rfl, rfl, ?_⟩
  refine calls_of_run Tryz.func42 rfl (by kernel_rfl) (by kernel_rfl) (by simp) 1000 ?_
  cases o with
  | none =>
    simp +contextual (maxSteps := 2000000) (disch := ((try unfold LIM at *); omega)) only [↓bcT, ↓bcF, WA, simprocAttr, wrI, pI, Option.isSome_none]
    exact Up.refl ⟨rfl, rfl⟩
  | some x =>
    simp +contextual (maxSteps := 2000000) (disch := ((try unfold LIM at *); omega)) only [↓bcT, ↓bcF, WA, simprocAttr, wrI, pI, Option.isSome_some]
    exact Up.refl ⟨rfl, rfl⟩
theorem foldD {A B C D E G I J X Y Z : V} {K : Blk} {zs : List (List V)} {n a b : Nat} (h : (a = 2 ∧ b = 1) ∨ (a = 1 ∧ b = 2)) (h3 : zs.length = n) (h4 : nrs zs = true) :
    folds [K, ⟨zs, 1, n, true⟩, ⟨zs, 1, n, true⟩, ⟨[[A, B, C, D, E, .sl 4 0 0 0, G, I, .sl 5 0 0 0, .sl a 0 n n, .sl b 0 n n]], 11, 1, true⟩, ⟨[], 1, 0, true⟩, ⟨[], 1, 0, true⟩] [(3, 0, 5), (3, 0, 8), (3, 0, 9), (3, 0, 10)] = [K, .dead, .dead, ⟨[[A, B, C, D, E, .l 1 [], G, I, .l 1 [], .l 1 zs, .l 1 zs]], 11, 1, true⟩, .dead, .dead] := by
  have h0 : nrs [] = true := rfl
  rcases h with ⟨rfl, rfl⟩ | ⟨rfl, rfl⟩
  · simp [folds, foldC, foldK, rdC, rdB, refB, ownOf, elsB, wrH, wrB, wrE, wrL, shrinks, shr1, gcL, h0, h3, h4]
  · simp [folds, foldC, foldK, rdC, rdB, refB, ownOf, elsB, wrH, wrB, wrE, wrL, shrinks, shr1, gcL, h0, h3, h4]
def rz (m : Img) : List Int := List.replicate m.funs.length 0
def m0 : Mc := ⟨0, [], []⟩
theorem doArr {n0 : Nat} {m : Img} {fu : Int} {K : Blk} {n a b : Nat} (hn : m.funs.length = n) (h : (a = 2 ∧ b = 1) ∨ (a = 1 ∧ b = 2)) : Arr n0 [K, ⟨List.replicate n [.s (.int .i64 0)], 1, n, true⟩, ⟨List.replicate n [.s (.int .i64 0)], 1, n, true⟩, ⟨[[.f 6 (m.funs.map fnV), .f 1 (m.mains.map iV), .s (.int .i64 fu), .s (.int .i64 0), .s (.int .i64 0), .z, .s (.int .i64 0), .s (.bool false), .z, .sl a 0 n n, .sl b 0 n n]], 11, 1, true⟩]
    [K, .dead, .dead, pI m fu m0 none (rz m) (rz m), .dead, .dead] fun x x' => x' = x := by
  subst hn
  have e : (rz m).map iV = List.replicate m.funs.length [V.s (.int .i64 0)] := by unfold rz; rw [List.map_replicate]; rfl
  have F := foldD (A := .f 6 (m.funs.map fnV)) (B := .f 1 (m.mains.map iV)) (C := .s (.int .i64 fu)) (D := .s (.int .i64 0)) (E := .s (.int .i64 0)) (G := .s (.int .i64 0)) (I := .s (.bool false)) (J := .z) (X := .z) (Y := .z) (Z := .z) (K := K) (n := m.funs.length) h (zs := (rz m).map iV) (by simp [rz]) (nrs_map iV_nr _)
  rw [e] at F
  have F2 := F.trans (show _ = [K, .dead, .dead, pI m fu m0 none (rz m) (rz m), .dead, .dead] by rw [← e]; rfl)
  have A1 := Arr.nilCell (n0 := n0) (h := [K, ⟨List.replicate m.funs.length [.s (.int .i64 0)], 1, m.funs.length, true⟩, ⟨List.replicate m.funs.length [.s (.int .i64 0)], 1, m.funs.length, true⟩, ⟨[[.f 6 (m.funs.map fnV), .f 1 (m.mains.map iV), .s (.int .i64 fu), .s (.int .i64 0), .s (.int .i64 0), .z, .s (.int .i64 0), .s (.bool false), .z, .sl a 0 m.funs.length m.funs.length, .sl b 0 m.funs.length m.funs.length]], 11, 1, true⟩]) (b := 3) (m := 1)
    (els' := [[.f 6 (m.funs.map fnV), .f 1 (m.mains.map iV), .s (.int .i64 fu), .s (.int .i64 0), .s (.int .i64 0), .sl 4 0 0 0, .s (.int .i64 0), .s (.bool false), .z, .sl a 0 m.funs.length m.funs.length, .sl b 0 m.funs.length m.funs.length]]) rfl ⟨⟨.inl rfl, .inl rfl, .inl rfl, .inl rfl, .inl rfl, .inr ⟨rfl, rfl⟩, .inl rfl, .inl rfl, .inl rfl, .inl rfl, .inl rfl, trivial⟩, trivial⟩
  have A2 := Arr.nilCell (n0 := n0) (h := [K, ⟨List.replicate m.funs.length [.s (.int .i64 0)], 1, m.funs.length, true⟩, ⟨List.replicate m.funs.length [.s (.int .i64 0)], 1, m.funs.length, true⟩, ⟨[[.f 6 (m.funs.map fnV), .f 1 (m.mains.map iV), .s (.int .i64 fu), .s (.int .i64 0), .s (.int .i64 0), .sl 4 0 0 0, .s (.int .i64 0), .s (.bool false), .z, .sl a 0 m.funs.length m.funs.length, .sl b 0 m.funs.length m.funs.length]], 11, 1, true⟩, ⟨[], 1, 0, true⟩]) (b := 3) (m := 1)
    (els' := [[.f 6 (m.funs.map fnV), .f 1 (m.mains.map iV), .s (.int .i64 fu), .s (.int .i64 0), .s (.int .i64 0), .sl 4 0 0 0, .s (.int .i64 0), .s (.bool false), .sl 5 0 0 0, .sl a 0 m.funs.length m.funs.length, .sl b 0 m.funs.length m.funs.length]]) rfl ⟨⟨.inl rfl, .inl rfl, .inl rfl, .inl rfl, .inl rfl, .inl rfl, .inl rfl, .inl rfl, .inr ⟨rfl, rfl⟩, .inl rfl, .inl rfl, trivial⟩, trivial⟩
  have A3 := Arr.folds n0 [(3, 0, 5), (3, 0, 8), (3, 0, 9), (3, 0, 10)] [K, ⟨List.replicate m.funs.length [.s (.int .i64 0)], 1, m.funs.length, true⟩, ⟨List.replicate m.funs.length [.s (.int .i64 0)], 1, m.funs.length, true⟩, ⟨[[.f 6 (m.funs.map fnV), .f 1 (m.mains.map iV), .s (.int .i64 fu), .s (.int .i64 0), .s (.int .i64 0), .sl 4 0 0 0, .s (.int .i64 0), .s (.bool false), .sl 5 0 0 0, .sl a 0 m.funs.length m.funs.length, .sl b 0 m.funs.length m.funs.length]], 11, 1, true⟩, ⟨[], 1, 0, true⟩, ⟨[], 1, 0, true⟩]
  rw [F2] at A3
  exact ((A1.trans A2).trans A3).mono fun x x' q => ⟨x, ⟨x, rfl, rfl⟩, q⟩
section
variable {N n0 : Nat} {Q : QT} {k : List It} {τ : Tau} {dst : Option Nat}
theorem CallThen.stop2 {X : Blk} {m0 : Img} {fuel : Nat} {mc : Mc} {o : Option Stop} {rs es : List Int} {e t : Int} (m : Nat) {h : H} (eh : h = [X, pB m0 fuel mc o rs es] := by rfl) {args' : List V} (ha : args' = [.ptr 1 0 0, .s (.int .i64 e), .s (.int .i64 t)] := by rfl)
    (hr : Run C N n0 m Q k (upo dst (.tup []) τ) [X, pB m0 fuel mc (stopO o (e, t)) rs es]) : CallThen C N n0 Q 42 args' dst k τ h := by
  subst eh; subst ha
  exact CallThen.edit (edit42 m0 fuel mc o rs es e t) [1] (by simp) ⟨.inl ⟨p_nr .., rfl⟩, trivial⟩ rfl m hr
end
def doR (m : Img) (fu : Int) (res : Res) (h' : H) : Prop := ∃ L rs es, res = .ret (.ptr 0 0 0) ∧ h' = [pI m L (machM m fu).1 (some (machM m fu).2) rs es]
theorem do_end {m : Img} {fu L : Int} {mc : Mc} {e : Stop} {rs es : List Int} {h : H} {b : Nat} (hl : b < h.length) (hb : h[b]? = some (pI m L mc (some e) rs es)) (hq : machM m fu = (mc, e)) : Up 0 (doR m fu) (.ret (.ptr b 0 0)) h :=
  Up.gcF (.ptr 0 0 0) [] [] [b] [pI m L mc (some e) rs es] (by simp) rfl ⟨.inl ⟨pI_nr .., hb⟩, trivial⟩ rfl ⟨L, rs, es, rfl, by rw [hq]⟩
structure DS where
  i : Nat
  mc : Mc
  o : Option Stop
  rs : List Int
  es : List Int
def DOk (m : Img) (fuel : Nat) (s : DS) : Prop := s.i ≤ m.mains.length ∧ s.rs.length = m.funs.length ∧ s.es.length = m.funs.length ∧ McOk fuel s.mc ∧ match s.o with
  | none => mainsM m.funs fuel (m.mains.drop s.i) s.mc = mainsM m.funs fuel m.mains m0
  | some e => mainsM m.funs fuel m.mains m0 = (s.mc, .error e)
theorem calls25 (m : Img) (fu : Int) (hk : m.funs.length ≤ 1048576) (hm : m.mains.length ≤ 1048576) (hs : sizeN m.funs ≤ 1048576) : CallsV C 25 [.agg (imgV m), .s (.int .i64 fu)] [] (doR m fu) := by
  refine calls_of_run Tryz.func25 rfl (by kernel_rfl) (by kernel_rfl) (by simp) 1000 ?_
  have w41 := walk41 m hk hm hs
  have w46 : rangeB fu 0 400000 = fuelB fu := rfl
  have b4 : (0 : Int) ≤ m.funs.length := by omega
  have b5 : (8 : Int) * m.funs.length ≤ 140737488355328 := by omega
  have b6 : (m.funs.length : Int) ≤ 4611686018427387904 := by omega
  simp +contextual (maxSteps := 2000000) (disch := ((try unfold LIM at *); omega)) only [↓bcT, ↓bcF, WA, simprocAttr, wrI, imgV]
  refine DrawThen.of 1000 [] (.old 0 (.old 1 (.old 2 (.old 3 (.old 4 (.old 6 (.old 7 (.old 8 (.or 5 (.go 9 (.new 10 (.go 11 (.new 12 .done)))) (.go 9 (.go 5 (.new 10 (.go 11 (.new 12 .done)))))))))))))) (panFree_body _ _) (by kernel_rfl) (by kernel_rfl) (by kernel_rfl) ?_
  simp +contextual (maxSteps := 2000000) (disch := ((try unfold LIM at *); omega)) only [↓bcT, ↓bcF, WA, simprocAttr, wrI, List.length_map, b4, b5, b6]
  repeat' apply And.intro
  all_goals
    intro _
    refine And.intro ?_ ?_
  all_goals
    first | refine CallThen.arr (M := fun x x' => x' = x) (args' := [.agg (imgV m)]) (doArr (m := m) (fu := fu) (a := 2) (b := 1) rfl (by simp)) ⟨rfl, trivial⟩ (fun _ => rfl) ?_ | refine CallThen.arr (M := fun x x' => x' = x) (args' := [.agg (imgV m)]) (doArr (m := m) (fu := fu) (a := 1) (b := 2) rfl (by simp)) ⟨rfl, trivial⟩ (fun _ => rfl) ?_
    refine CallThen.pure w41 1000 ?_
    have bad : ¬ (imgB m = true ∧ fuelB fu = true) → machM m fu = (m0, (3, 0)) := fun q => by unfold machM; rw [if_neg q]; rfl
    cases c1 : imgB m with
    | false =>
      simp +contextual (maxSteps := 2000000) (disch := ((try unfold LIM at *); omega)) only [↓bcT, ↓bcF, WA, simprocAttr, wrI]
      refine CallThen.edit (edit42I m fu m0 none (rz m) (rz m) 3 0) [3] (by simp) ⟨.inl ⟨pI_nr .., rfl⟩, trivial⟩ rfl 1000 ?_
      simp +contextual (maxSteps := 2000000) (disch := ((try unfold LIM at *); omega)) only [↓bcT, ↓bcF, WA, simprocAttr, wrI]
      exact do_end (by simp) rfl (bad (fun q => by rw [q.1] at c1; cases c1))
    | true =>
      by_cases c2 : fu < 0
      · simp +contextual (maxSteps := 2000000) (disch := ((try unfold LIM at *); omega)) only [↓bcT, ↓bcF, WA, simprocAttr, wrI, c2]
        refine CallThen.edit (edit42I m fu m0 none (rz m) (rz m) 3 0) [3] (by simp) ⟨.inl ⟨pI_nr .., rfl⟩, trivial⟩ rfl 1000 ?_
        simp +contextual (maxSteps := 2000000) (disch := ((try unfold LIM at *); omega)) only [↓bcT, ↓bcF, WA, simprocAttr, wrI]
        exact do_end (by simp) rfl (bad (fun q => by have := q.2; simp [fuelB, rangeB] at this; omega))
      · by_cases c3 : 400000 < fu
        · simp +contextual (maxSteps := 2000000) (disch := ((try unfold LIM at *); omega)) only [↓bcT, ↓bcF, WA, simprocAttr, wrI, c2, c3]
          refine CallThen.edit (edit42I m fu m0 none (rz m) (rz m) 3 0) [3] (by simp) ⟨.inl ⟨pI_nr .., rfl⟩, trivial⟩ rfl 1000 ?_
          simp +contextual (maxSteps := 2000000) (disch := ((try unfold LIM at *); omega)) only [↓bcT, ↓bcF, WA, simprocAttr, wrI]
          exact do_end (by simp) rfl (bad (fun q => by have := q.2; simp [fuelB, rangeB] at this; omega))
        · simp +contextual (maxSteps := 2000000) (disch := ((try unfold LIM at *); omega)) only [↓bcT, ↓bcF, WA, simprocAttr, wrI, c2, c3]
          have cf : fuelB fu = true := by simp [fuelB, rangeB]; omega
          obtain ⟨fuel, rfl, hfu⟩ : ∃ fuel : Nat, fu = fuel ∧ fuel ≤ 400000 := ⟨fu.toNat, by omega, by omega⟩
          obtain ⟨i1, i2, i3, i4⟩ := imgB_all c1
          have eM : machM m fuel = match mainsM m.funs fuel m.mains m0 with
              | (mc, .error e) => (mc, e)
              | (mc, .ok _) => (mc, (1, 0)) := by unfold machM; rw [if_pos ⟨c1, cf⟩, Int.toNat_natCast]; rfl
          have ep : pI m fuel m0 none (rz m) (rz m) = pB m fuel m0 none (rz m) (rz m) := by simp [pI, pB, m0]
          refine LoopThen.ownF 0 (ι := DS) (DOk m fuel) (fun s => [(2, .ptr 0 0 0), (5, .ptr 1 0 0), (6, .s (.int .i64 s.i))])
            (fun s => [⟨[imgV m], 2, 1, true⟩, pB m fuel s.mc s.o s.rs s.es]) (fun s => m.mains.length - s.i) 1000 1000
            ⟨⟨0, m0, none, rz m, rz m⟩, ⟨Nat.zero_le _, by simp [rz], by simp [rz], ⟨Nat.zero_le _, Nat.le_refl _, rfl⟩, rfl⟩, [], [0, 3], ⟨by simp, rfl⟩, ⟨.inl ⟨rfl, rfl⟩, .inl ⟨pI_nr .., by rw [← ep]; rfl⟩, trivial⟩, by simp +contextual (maxSteps := 2000000) (disch := ((try unfold LIM at *); omega)) only [↓bcT, ↓bcF, WA, simprocAttr, wrI]⟩ ?_
          rintro ⟨i, mc, o, rs, es⟩ ⟨q1, q2, q3, q4, q5⟩
          simp only at q1 q2 q3 q4 q5
          cases o with
          | some e =>
            simp only at q5
            have hM : machM m fuel = (mc, e) := by rw [eM, q5]
            by_cases c5 : (i : Int) < m.mains.length
            · simp +contextual (maxSteps := 2000000) (disch := ((try unfold LIM at *); omega)) only [↓bcT, ↓bcF, WA, simprocAttr, wrI, pB, imgV, List.length_map, c5, Option.isSome_some]
              intros
              refine CallThen.stop2 (m0 := m) (fuel := fuel) (mc := mc) (o := some e) (rs := rs) (es := es) 1000 rfl rfl ?_
              simp +contextual (maxSteps := 2000000) (disch := ((try unfold LIM at *); omega)) only [↓bcT, ↓bcF, WA, simprocAttr, wrI, stopO]
              exact do_end (L := (fuel : Int) - mc.steps) (rs := rs) (es := es) (by simp) rfl hM
            · simp +contextual (maxSteps := 2000000) (disch := ((try unfold LIM at *); omega)) only [↓bcT, ↓bcF, WA, simprocAttr, wrI, pB, imgV, List.length_map, c5]
              intros
              refine CallThen.stop2 (m0 := m) (fuel := fuel) (mc := mc) (o := some e) (rs := rs) (es := es) 1000 rfl rfl ?_
              simp +contextual (maxSteps := 2000000) (disch := ((try unfold LIM at *); omega)) only [↓bcT, ↓bcF, WA, simprocAttr, wrI, stopO]
              exact do_end (L := (fuel : Int) - mc.steps) (rs := rs) (es := es) (by simp) rfl hM
          | none =>
            simp only at q5
            by_cases c5 : i < m.mains.length
            · have c5' : (i : Int) < m.mains.length := by omega
              have pi : (0 : Int) ≤ i := by omega
              obtain ⟨x, hx⟩ : ∃ x, m.mains[i]? = some x := ⟨m.mains[i], List.getElem?_eq_getElem c5⟩
              have hxv : (m.mains.map iV)[i]? = some (iV x) := by rw [List.getElem?_map, hx]; rfl
              rw [drop_cons hx] at q5
              obtain ⟨k, rfl, hk2⟩ := i4 x (List.mem_of_getElem? hx)
              obtain ⟨g, hg⟩ : ∃ g, m.funs[k]? = some g := ⟨m.funs[k], List.getElem?_eq_getElem hk2⟩
              have hgv : (m.funs.map fnV)[k]? = some (fnV g) := by rw [List.getElem?_map, hg]; rfl
              have k0 : (0 : Int) ≤ k := by omega
              have k1 : (k : Int) < m.funs.length := by omega
              simp only [fnV] at hgv
              simp only [mainsM, Int.toNat_natCast, hg] at q5
              simp +contextual (maxSteps := 2000000) (disch := ((try unfold LIM at *); omega)) only [↓bcT, ↓bcF, WA, simprocAttr, wrI, pB, List.length_map, c5', Option.isSome_none, imgV]
              intros
              by_cases c6 : g.args = []
              · have c6' : ¬ (0 : Int) < g.args.length := by rw [c6]; simp
                rw [if_neg (by simpa using c6)] at q5
                have ok := enterM_ok (fun g fr mc => loopM_ok m.funs fuel fuel 0 g fr mc) g [] mc (by simp) q4
                have D := spec43 m fuel hfu i1 i2 fuel 0 (by omega) k g [] mc rs es hg (by simp) (by simp) q4 (by omega) q2 q3
                refine DrawThen.of 1000 [] (.old 0 (.old 1 (.old 2 (.old 3 (.old 4 (.old 5 (.old 6 (.old 7 (.old 8 (.old 9 (.old 10 (.old 11 .done)))))))))))) (panFree_loopN (panFree_body _ _)) (by kernel_rfl) (by kernel_rfl) (by kernel_rfl) ?_
                simp +contextual (maxSteps := 2000000) (disch := ((try unfold LIM at *); omega)) only [↓bcT, ↓bcF, WA, simprocAttr, wrI, List.length_map, pi, c5', hxv, iV, k0, k1, hgv, c6']
                intros
                refine CallThen.arr (args' := [.ptr 1 0 0, .s (.int .i64 k), .f 3 [], .s (.int .i64 0)]) Arr.zf ⟨.inl rfl, .inl rfl, .inr ⟨rfl, 3, rfl⟩, .inl rfl, trivial⟩ (fun t => .inl rfl) ?_
                refine CallThen.of 1000 (CallsV.frameL D [1] _ (by simp) ⟨.inl ⟨p_nr .., rfl⟩, trivial⟩ rfl) fun res h' ⟨r, h1, ⟨rs', es', g1, g2, g3⟩, g4, g5, g6⟩ => ?_
                subst g5; subst g6
                rcases hq : enterM (loopM m.funs fuel fuel 0) g [] mc with ⟨mc', e | v⟩
                · rw [hq] at g3 q5 ok
                  obtain ⟨rfl, rfl⟩ := g3
                  show Run _ _ _ _ _ _ (upo _ (rnV _ (.agg (valV zeroE))) _) (setAll _ [1] [rnB _ (pB m fuel mc' (some e) rs' es')])
                  rw [rnB_p, valV_rnV]
                  simp +contextual (maxSteps := 2000000) (disch := ((try unfold LIM at *); omega)) only [↓bcT, ↓bcF, WA, simprocAttr, wrI]
                  refine ⟨⟨i + 1, mc', some e, rs', es'⟩, ⟨⟨by simp only; omega, g1, g2, ok.1, q5.symm⟩, by simp only; omega⟩, [], [0, 1], ⟨by simp, rfl⟩, ⟨.inl ⟨rfl, rfl⟩, .inl ⟨p_nr .., rfl⟩, trivial⟩, by simp +contextual (maxSteps := 2000000) (disch := ((try unfold LIM at *); omega)) only [↓bcT, ↓bcF, WA, simprocAttr, wrI, cast_succ]⟩
                · rw [hq] at g3 q5 ok
                  obtain ⟨rfl, rfl⟩ := g3
                  show Run _ _ _ _ _ _ (upo _ (rnV _ (.agg (valV v))) _) (setAll _ [1] [rnB _ (pB m fuel mc' none rs' es')])
                  rw [rnB_p, valV_rnV]
                  simp +contextual (maxSteps := 2000000) (disch := ((try unfold LIM at *); omega)) only [↓bcT, ↓bcF, WA, simprocAttr, wrI]
                  refine ⟨⟨i + 1, mc', none, rs', es'⟩, ⟨⟨by simp only; omega, g1, g2, ok.1, q5⟩, by simp only; omega⟩, [], [0, 1], ⟨by simp, rfl⟩, ⟨.inl ⟨rfl, rfl⟩, .inl ⟨p_nr .., rfl⟩, trivial⟩, by simp +contextual (maxSteps := 2000000) (disch := ((try unfold LIM at *); omega)) only [↓bcT, ↓bcF, WA, simprocAttr, wrI, cast_succ]⟩
              · have c6' : (0 : Int) < g.args.length := by have := List.length_pos_iff.2 c6; omega
                rw [if_pos (by simpa using c6)] at q5
                refine DrawThen.of 1000 [] (.old 0 (.old 1 (.old 2 (.old 3 (.old 4 (.old 5 (.old 6 (.old 7 (.old 8 (.old 9 (.old 10 (.old 11 .done)))))))))))) (panFree_loopN (panFree_body _ _)) (by kernel_rfl) (by kernel_rfl) (by kernel_rfl) ?_
                simp +contextual (maxSteps := 2000000) (disch := ((try unfold LIM at *); omega)) only [↓bcT, ↓bcF, WA, simprocAttr, wrI, List.length_map, pi, c5', hxv, iV, k0, k1, hgv, c6']
                intros
                refine CallThen.stop2 (m0 := m) (fuel := fuel) (mc := mc) (o := none) (rs := rs) (es := es) 1000 rfl rfl ?_
                simp +contextual (maxSteps := 2000000) (disch := ((try unfold LIM at *); omega)) only [↓bcT, ↓bcF, WA, simprocAttr, wrI, stopO]
                refine ⟨⟨i + 1, mc, some (3, 0), rs, es⟩, ⟨⟨by simp only; omega, q2, q3, q4, q5.symm⟩, by simp only; omega⟩, [], [0, 1], ⟨by simp, rfl⟩, ⟨.inl ⟨rfl, rfl⟩, .inl ⟨p_nr .., rfl⟩, trivial⟩, by simp +contextual (maxSteps := 2000000) (disch := ((try unfold LIM at *); omega)) only [↓bcT, ↓bcF, WA, simprocAttr, wrI, cast_succ]⟩
            · have c5' : ¬ (i : Int) < m.mains.length := by omega
              rw [List.drop_eq_nil_of_le (by omega)] at q5
              have hM : machM m fuel = (mc, (1, 0)) := by rw [eM, ← q5]; rfl
              simp +contextual (maxSteps := 2000000) (disch := ((try unfold LIM at *); omega)) only [↓bcT, ↓bcF, WA, simprocAttr, wrI, pB, imgV, List.length_map, c5']
              intros
              refine CallThen.stop2 (m0 := m) (fuel := fuel) (mc := mc) (o := none) (rs := rs) (es := es) 1000 rfl rfl ?_
              simp +contextual (maxSteps := 2000000) (disch := ((try unfold LIM at *); omega)) only [↓bcT, ↓bcF, WA, simprocAttr, wrI, stopO]
              exact do_end (L := (fuel : Int) - mc.steps) (rs := rs) (es := es) (by simp) rfl hM
end Go.Proofs.YtlhkfjannhhcbaaGreatDoor
/- part N14 -/
set_option linter.unusedVariables false
set_option linter.unusedSimpArgs false
set_option maxRecDepth 100000
namespace Go.Proofs.YtlhkfjannhhcbaaGreatDoor
open Go Go.W Go.RowKit
def mendV (q : Mc × Stop) : List V := [.s (.int .i64 q.2.1), .s (.int .i64 q.2.2), .f 1 (q.1.out.map iV), .s (.int .i64 q.1.steps)]
theorem own_ivL {l : List Int} {cap : Nat} : elsOf 0 l.length (some ⟨l.map iV, 1, cap, true⟩) = some (l.map iV) := by simp [elsOf, List.take_of_length_le]
theorem walk15 (m : Img) (fu : Int) (hk : m.funs.length ≤ 1048576) (hm : m.mains.length ≤ 1048576) (hs : sizeN m.funs ≤ 1048576) : PureV C 15 [.agg (imgV m), .s (.int .i64 fu)] (.agg (mendV (machM m fu))) := by
  refine pure_of_run Tryz.func15 rfl (by kernel_rfl) (by kernel_rfl) (by simp) (fun _ => rfl) (fun _ => rfl) 6 1000 ?_
  simp +contextual (maxSteps := 2000000) (disch := ((try unfold LIM at *); omega)) only [↓bcT, ↓bcF, WA, simprocAttr, wrI, imgV]
  refine CallThen.of 1000 (CallsV.frameL (calls25 m fu hk hm hs) [] _ (by simp) trivial rfl) fun res h' hx => ?_
  obtain ⟨r, hh, ⟨L, rs, es, k1, k2⟩, k5, k6, k7⟩ := hx
  subst k1; subst k2; subst k6; subst k7
  simp +contextual (maxSteps := 2000000) (disch := ((try unfold LIM at *); omega)) only [↓bcT, ↓bcF, WA, simprocAttr, wrI, rnRes, rnB_pI, pI, ovE, ovT, List.length_map, own_ivL, iV_frz, mendV, cellOk, Nat.not_lt_zero]
def highV : Option (List Int) → V
  | none => .z
  | some l => .f 1 (l.map iV)
theorem highV_rn (ρ : Nat → Nat) (o : Option (List Int)) : rnV ρ (highV o) = highV o := by cases o <;> rfl
theorem walk7 (m : Img) (fu : Int) (hk : m.funs.length ≤ 1048576) (hm : m.mains.length ≤ 1048576) (hs : sizeN m.funs ≤ 1048576) : PureV C 7 [.agg (imgV m), .s (.int .i64 fu)] (highV (highM m fu)) := by
  refine pure_of_run Tryz.func7 rfl (by kernel_rfl) (by kernel_rfl) (by simp) (fun _ => rfl) (fun ρ => highV_rn ρ _) 6 1000 ?_
  simp +contextual (maxSteps := 2000000) (disch := ((try unfold LIM at *); omega)) only [↓bcT, ↓bcF, WA, simprocAttr, wrI, imgV]
  refine CallThen.of 1000 (CallsV.frameL (calls25 m fu hk hm hs) [] _ (by simp) trivial rfl) fun res h' hx => ?_
  obtain ⟨r, hh, ⟨L, rs, es, k1, k2⟩, k5, k6, k7⟩ := hx
  subst k1; subst k2; subst k6; subst k7
  by_cases c : (machM m fu).2.1 = 3
  · have e : highM m fu = none := by unfold highM; rw [if_pos c]
    rw [e]
    simp +contextual (maxSteps := 2000000) (disch := ((try unfold LIM at *); omega)) only [↓bcT, ↓bcF, WA, simprocAttr, wrI, rnRes, rnB_pI, pI, ovE, ovT, List.length_map, c, highV]
  · have e : highM m fu = some (machM m fu).1.high := by unfold highM; rw [if_neg c]
    rw [e]
    simp +contextual (maxSteps := 2000000) (disch := ((try unfold LIM at *); omega)) only [↓bcT, ↓bcF, WA, simprocAttr, wrI, rnRes, rnB_pI, pI, ovE, ovT, List.length_map, own_ivL, iV_frz, c, Nat.not_lt_zero, highV]
end Go.Proofs.YtlhkfjannhhcbaaGreatDoor
/- part N15 -/
set_option linter.unusedVariables false
set_option linter.unusedSimpArgs false
set_option maxRecDepth 100000
namespace Go.Proofs.YtlhkfjannhhcbaaGreatDoor
open Go Go.W Go.RowKit
theorem walk10z : PureV C 10 [.z, .f 1 []] (.s (.bool true)) := by
  refine pure_of_run Tryz.func10 rfl (by kernel_rfl) (by kernel_rfl) (by simp) (fun _ => rfl) (fun _ => rfl) 6 1000 ?_
  simp +contextual (maxSteps := 2000000) (disch := ((try unfold LIM at *); omega)) only [↓bcT, ↓bcF, WA, simprocAttr, wrI]
  intro _
  refine LoopThen.zero 1000 1000 ?_
  simp +contextual (maxSteps := 2000000) (disch := ((try unfold LIM at *); omega)) only [↓bcT, ↓bcF, WA, simprocAttr, wrI, WB6]
theorem walk10zz : PureV C 10 [.z, .z] (.s (.bool true)) := by
  refine pure_of_run Tryz.func10 rfl (by kernel_rfl) (by kernel_rfl) (by simp) (fun _ => rfl) (fun _ => rfl) 6 1000 ?_
  simp +contextual (maxSteps := 2000000) (disch := ((try unfold LIM at *); omega)) only [↓bcT, ↓bcF, WA, simprocAttr, wrI]
  refine LoopThen.zero 1000 1000 ?_
  simp +contextual (maxSteps := 2000000) (disch := ((try unfold LIM at *); omega)) only [↓bcT, ↓bcF, WA, simprocAttr, wrI, WB6]
theorem walk13z : PureV C 13 [.z, .s (.int .i64 1)] (.s (.int .i64 1)) := by
  refine pure_of_run Tryz.func13 rfl (by kernel_rfl) (by kernel_rfl) (by simp) (fun _ => rfl) (fun _ => rfl) 6 1000 ?_
  simp +contextual (maxSteps := 2000000) (disch := ((try unfold LIM at *); omega)) only [↓bcT, ↓bcF, WA, simprocAttr, wrI]
  refine LoopThen.zero 1000 1000 ?_
  simp +contextual (maxSteps := 2000000) (disch := ((try unfold LIM at *); omega)) only [↓bcT, ↓bcF, WA, simprocAttr, wrI, WB6]
theorem walk14z : PureV C 14 [.z, .s (.int .i64 1)] (.s (.int .i64 1)) := by
  refine pure_of_run Tryz.func14 rfl (by kernel_rfl) (by kernel_rfl) (by simp) (fun _ => rfl) (fun _ => rfl) 6 1000 ?_
  simp +contextual (maxSteps := 2000000) (disch := ((try unfold LIM at *); omega)) only [↓bcT, ↓bcF, WA, simprocAttr, wrI]
  refine LoopThen.zero 1000 1000 ?_
  simp +contextual (maxSteps := 2000000) (disch := ((try unfold LIM at *); omega)) only [↓bcT, ↓bcF, WA, simprocAttr, wrI, WB6]
theorem walk17 (q : Mc × Stop) : PureV C 17 [.agg (mendV q), .agg (mendV q)] (.s (.bool true)) := by
  refine pure_of_run Tryz.func17 rfl (by kernel_rfl) (by kernel_rfl) (by simp) (fun _ => rfl) (fun _ => rfl) 6 1000 ?_
  simp +contextual (maxSteps := 2000000) (disch := ((try unfold LIM at *); omega)) only [↓bcT, ↓bcF, WA, simprocAttr, wrI, mendV, bne_self_eq_false]
  refine CallThen.pure (walk10 q.1.out) 1000 ?_
  simp +contextual (maxSteps := 2000000) (disch := ((try unfold LIM at *); omega)) only [↓bcT, ↓bcF, WA, simprocAttr, wrI, bne_self_eq_false]
theorem walk17z : PureV C 17 [.agg [.s (.int .i64 3), .s (.int .i64 0), .z, .s (.int .i64 0)], .agg [.s (.int .i64 3), .s (.int .i64 0), .f 1 [], .s (.int .i64 0)]] (.s (.bool true)) := by
  refine pure_of_run Tryz.func17 rfl (by kernel_rfl) (by kernel_rfl) (by simp) (fun _ => rfl) (fun _ => rfl) 6 1000 ?_
  simp +contextual (maxSteps := 2000000) (disch := ((try unfold LIM at *); omega)) only [↓bcT, ↓bcF, WA, simprocAttr, wrI, bne_self_eq_false]
  refine CallThen.pure walk10z 1000 ?_
  simp +contextual (maxSteps := 2000000) (disch := ((try unfold LIM at *); omega)) only [↓bcT, ↓bcF, WA, simprocAttr, wrI, bne_self_eq_false]
theorem walk18 (q : Mc × Stop) (cap : Nat) (hl : q.1.out.length ≤ 1048576) (hc : q.1.out.length ≤ cap) : EditV C 18 [.agg [.s (.int .i64 q.2.1), .s (.int .i64 q.2.2), .sl 0 0 q.1.out.length cap, .s (.int .i64 q.1.steps)], .s (.int .i64 1)] [⟨q.1.out.map iV, 1, cap, true⟩] (.s (.int .i64 (1 + q.1.out.length))) [⟨(mkI 1 q.1.out.length).map iV, 1, cap, true⟩] := by
  have enr : ∀ x, (iV x).all nr = true := fun _ => rfl
  refine ⟨fun _ => rfl, by simp [nrs_map enr], ?_⟩
  refine calls_of_run Tryz.func18 rfl (by kernel_rfl) (by kernel_rfl) (by simp) 1000 ?_
  simp +contextual (maxSteps := 2000000) (disch := ((try unfold LIM at *); omega)) only [↓bcT, ↓bcF, WA, simprocAttr, wrI]
  refine CallThen.edit (walk13 q.1.out 1 cap hl hc (by decide) (by decide)) [0] (by simp) ⟨.inl ⟨nrs_map iV_nr _, rfl⟩, trivial⟩ rfl 1000 ?_
  simp +contextual (maxSteps := 2000000) (disch := ((try unfold LIM at *); omega)) only [↓bcT, ↓bcF, WA, simprocAttr, wrI, WB8]
  exact Up.gcF (.s (.int .i64 (1 + q.1.out.length))) [] [] [0] [⟨(mkI 1 q.1.out.length).map iV, 1, cap, true⟩] (by simp) rfl ⟨.inl ⟨nrs_map enr _, rfl⟩, trivial⟩ rfl ⟨rfl, rfl⟩
theorem walk18z : PureV C 18 [.agg [.s (.int .i64 3), .s (.int .i64 0), .z, .s (.int .i64 0)], .s (.int .i64 1)] (.s (.int .i64 1)) := by
  refine pure_of_run Tryz.func18 rfl (by kernel_rfl) (by kernel_rfl) (by simp) (fun _ => rfl) (fun _ => rfl) 6 1000 ?_
  simp +contextual (maxSteps := 2000000) (disch := ((try unfold LIM at *); omega)) only [↓bcT, ↓bcF, WA, simprocAttr, wrI]
  refine CallThen.pure walk13z 1000 ?_
  simp +contextual (maxSteps := 2000000) (disch := ((try unfold LIM at *); omega)) only [↓bcT, ↓bcF, WA, simprocAttr, wrI]
theorem walk19 (e t s : Int) (n : Nat) (hn : n ≤ 1048576) : PureV C 19 [.agg [.s (.int .i64 e), .s (.int .i64 t), .f 1 ((mkI 1 n).map iV), .s (.int .i64 s)], .s (.int .i64 1)] (.s (.int .i64 (1 + n))) := by
  refine pure_of_run Tryz.func19 rfl (by kernel_rfl) (by kernel_rfl) (by simp) (fun _ => rfl) (fun _ => rfl) 6 1000 ?_
  simp +contextual (maxSteps := 2000000) (disch := ((try unfold LIM at *); omega)) only [↓bcT, ↓bcF, WA, simprocAttr, wrI]
  refine CallThen.pure (walk14 1 n hn (by decide) (by decide)) 1000 ?_
  have c : ¬ (1 : Int) + n < 0 := by omega
  simp +contextual (maxSteps := 2000000) (disch := ((try unfold LIM at *); omega)) only [↓bcT, ↓bcF, WA, simprocAttr, wrI, c]
theorem walk19z : PureV C 19 [.agg [.s (.int .i64 3), .s (.int .i64 0), .z, .s (.int .i64 0)], .s (.int .i64 1)] (.s (.int .i64 1)) := by
  refine pure_of_run Tryz.func19 rfl (by kernel_rfl) (by kernel_rfl) (by simp) (fun _ => rfl) (fun _ => rfl) 6 1000 ?_
  simp +contextual (maxSteps := 2000000) (disch := ((try unfold LIM at *); omega)) only [↓bcT, ↓bcF, WA, simprocAttr, wrI]
  refine CallThen.pure walk14z 1000 ?_
  simp +contextual (maxSteps := 2000000) (disch := ((try unfold LIM at *); omega)) only [↓bcT, ↓bcF, WA, simprocAttr, wrI]
end Go.Proofs.YtlhkfjannhhcbaaGreatDoor
/- part N16 -/
set_option linter.unusedVariables false
set_option linter.unusedSimpArgs false
set_option maxRecDepth 100000
namespace Go.Proofs.YtlhkfjannhhcbaaGreatDoor
open Go Go.W Go.RowKit
theorem mainsM_ok (fs : List IFun) (fuel : Nat) : ∀ (l : List Int) (mc : Mc), McOk fuel mc → McOk fuel (mainsM fs fuel l mc).1
  | [], mc, h => h
  | a :: r, mc, h => by
    simp only [mainsM]
    split
    · exact h
    · rename_i g hg
      split
      · exact h
      · have ok := enterM_ok (fun g fr mc => loopM_ok fs fuel fuel 0 g fr mc) g [] mc (by simp) h
        split
        · rename_i mc' e he
          rw [he] at ok; exact ok.1
        · rename_i mc' v he
          rw [he] at ok; exact mainsM_ok fs fuel r mc' ok.1
theorem machM_len (m : Img) (fu : Int) : (machM m fu).1.out.length ≤ 400000 ∧ (machM m fu).1.high.length ≤ 400000 := by
  unfold machM
  split
  · rename_i h
    have hf : fu.toNat ≤ 400000 := by have := h.2; simp [fuelB, rangeB] at this; omega
    have ok := mainsM_ok m.funs fu.toNat m.mains ⟨0, [], []⟩ ⟨Nat.zero_le _, Nat.le_refl _, rfl⟩
    have key : ∀ mc : Mc, McOk fu.toNat mc → mc.out.length ≤ 400000 ∧ mc.high.length ≤ 400000 := fun mc ⟨h1, h2, h3⟩ => by omega
    split
    · rename_i mc e he; rw [he] at ok; exact key _ ok
    · rename_i mc e he; rw [he] at ok; exact key _ ok
  · simp
theorem iV_pl (n : Int) : plTs (iV n) = true := rfl
theorem rnB_dead (ρ : Nat → Nat) : rnB ρ Blk.dead = Blk.dead := rfl
theorem endR_z {m : Img} {fu : Int} (r : Res) (h' : H) (h : endR m fu r h') : zfR r = true ∧ h'.all (fun B => plTss B.els) = true := by
  unfold endR at h
  split at h
  · obtain ⟨cap, _, rfl, rfl⟩ := h
    exact ⟨rfl, by simp [plTss_map iV_pl]⟩
  · obtain ⟨rfl, rfl⟩ := h
    exact ⟨rfl, rfl⟩
theorem highR_z {m : Img} {fu : Int} (r : Res) (h' : H) (h : highR m fu r h') : zfR r = true ∧ h'.all (fun B => plTss B.els) = true := by
  unfold highR at h
  split at h
  · obtain ⟨rfl, rfl⟩ := h
    exact ⟨rfl, rfl⟩
  · obtain ⟨cap, _, rfl, rfl⟩ := h
    exact ⟨rfl, by simp [plTss_map iV_pl]⟩
theorem walk4 (m : Img) (fu : Int) : PureV C 4 [.agg (imgV m), .s (.int .i64 fu)] (.s (.bool true)) := by
  refine pure_of_run Tryz.func4 rfl (by kernel_rfl) (by kernel_rfl) (by simp) (fun _ => rfl) (fun _ => rfl) 6 1000 ?_
  simp +contextual (maxSteps := 2000000) (disch := ((try unfold LIM at *); omega)) only [↓bcT, ↓bcF, WA, simprocAttr, wrI, imgV]
  refine CallThen.pure (walk6 m 1048576 (by decide) (by decide)) 1000 ?_
  by_cases c : szImg m 1048576 < 0
  · simp +contextual (maxSteps := 2000000) (disch := ((try unfold LIM at *); omega)) only [↓bcT, ↓bcF, WA, simprocAttr, wrI, c]
  obtain ⟨h1, h2, h3, h4⟩ := szImg_len c
  have h5 := szImg_tot c
  obtain ⟨l1, l2⟩ := machM_len m fu
  simp +contextual (maxSteps := 2000000) (disch := ((try unfold LIM at *); omega)) only [↓bcT, ↓bcF, WA, simprocAttr, wrI, c]
  refine CallThen.pure (walk8 m h1 h2 h4) 1000 ?_
  simp +contextual (maxSteps := 2000000) (disch := ((try unfold LIM at *); omega)) only [↓bcT, ↓bcF, WA, simprocAttr, wrI, imgV]
  refine CallThen.pure (walk15 m fu h1 h2 h3) 1000 ?_
  simp +contextual (maxSteps := 2000000) (disch := ((try unfold LIM at *); omega)) only [↓bcT, ↓bcF, WA, simprocAttr, wrI, mendV]
  refine CallThen.of 1000 (CallsV.frameL (new8 m h1 h2 h4) [] _ (by simp) trivial rfl) fun res h' hx => ?_
  obtain ⟨r, hh, ⟨c1, c2, k1, k2, k3, k4⟩, k5, k6, k7⟩ := hx
  subst k3; subst k4; subst k6; subst k7
  have fnL_rn : ∀ ρ, ((m.funs.map fnL).map fun el => el.map (rnC ρ)) = m.funs.map fnL := fun ρ => congrArg Blk.els (nrs_rn (B := ⟨m.funs.map fnL, 6, c1, true⟩) ρ (nrs_map fnL_nr _))
  simp +contextual (maxSteps := 2000000) (disch := ((try unfold LIM at *); omega)) only [↓bcT, ↓bcF, WA, simprocAttr, wrI, rnRes, iV_rn, fnL_rn]
  refine CallThen.of 1000 (CallsV.lendT (calls16 m fu h1 h2 h3) endR_z 6 _ ?_) fun res h' hx => ?_
  · simp +contextual (maxSteps := 2000000) (disch := ((try unfold LIM at *); omega)) only [↓bcT, ↓bcF, WA, simprocAttr, wrI, List.length_map, own_fn, own_ivL, fnL_frz, iV_frz, Nat.not_lt_zero, imgV]
  obtain ⟨r, hh, k3, k4, k5⟩ := hx
  by_cases cc : imgB m = true ∧ fuelB fu = true
  · rw [endR, if_pos cc] at k3
    obtain ⟨cg, hcg, rfl, rfl⟩ := k3
    subst k4; subst k5
    simp +contextual (maxSteps := 2000000) (disch := ((try unfold LIM at *); omega)) only [↓bcT, ↓bcF, WA, simprocAttr, wrI, rnRes]
    refine CallThen.borrow (walk17 (machM m fu)) (flat_s _) 6 ?_ 1000 ?_
    · simp +contextual (maxSteps := 2000000) (disch := ((try unfold LIM at *); omega)) only [↓bcT, ↓bcF, WA, simprocAttr, wrI, List.length_map, own_iv, iV_frz, Nat.not_lt_zero, mendV]
    simp +contextual (maxSteps := 2000000) (disch := ((try unfold LIM at *); omega)) only [↓bcT, ↓bcF, WA, simprocAttr, wrI, bne_self_eq_false]
    refine DrawThen.of 1000 [2, 3] (.old 0 (.old 1 (.go 2 (.go 3 (.new 4 .done))))) (panFree_pure _ _ _) (by kernel_rfl) (by kernel_rfl) (by kernel_rfl) ?_
    simp +contextual (maxSteps := 2000000) (disch := ((try unfold LIM at *); omega)) only [↓bcT, ↓bcF, WA, simprocAttr, wrI, imgV]
    refine DCall.pure (walk8 m h1 h2 h4) 1000 (.go 3 (.new 4 .done)) (by kernel_rfl) ?_
    simp +contextual (maxSteps := 2000000) (disch := ((try unfold LIM at *); omega)) only [↓bcT, ↓bcF, WA, simprocAttr, wrI, imgV]
    try simp +contextual (maxSteps := 2000000) (disch := ((try unfold LIM at *); omega)) only [↓bcT, ↓bcF, WA, simprocAttr, wrI, imgV]
    refine DCall.borrow (walk11 m) (flat_s _) 6 ?_ 1000 (.new 4 .done) (by kernel_rfl) ?_
    · simp +contextual (maxSteps := 2000000) (disch := ((try unfold LIM at *); omega)) only [↓bcT, ↓bcF, WA, simprocAttr, wrI, List.length_map, own_fn, own_ivL, fnL_frz, iV_frz, Nat.not_lt_zero, imgV]
    simp +contextual (maxSteps := 2000000) (disch := ((try unfold LIM at *); omega)) only [↓bcT, ↓bcF, WA, simprocAttr, wrI]
    try simp +contextual (maxSteps := 2000000) (disch := ((try unfold LIM at *); omega)) only [↓bcT, ↓bcF, WA, simprocAttr, wrI, imgV]
    skip
    refine CallThen.of 1000 (CallsV.frameL (calls12 m c1 c2 h1 h2 h4 h5 k1 k2) [2, 3] _ (by simp) ⟨.inl ⟨nrs_map fnL_nr _, rfl⟩, .inl ⟨nrs_map iV_nr _, rfl⟩, trivial⟩ rfl) fun res h' hx => ?_
    obtain ⟨r, hh, ⟨n, q1, q2⟩, k5, k6, k7⟩ := hx
    subst q1; subst q2; subst k6; subst k7
    have pn : ¬ (n : Int) < 0 := by omega
    simp +contextual (maxSteps := 2000000) (disch := ((try unfold LIM at *); omega)) only [↓bcT, ↓bcF, WA, simprocAttr, wrI, rnRes, rnB_dead, pn]
    refine CallThen.borrow (walk17 (machM m fu)) (flat_s _) 6 ?_ 1000 ?_
    · simp +contextual (maxSteps := 2000000) (disch := ((try unfold LIM at *); omega)) only [↓bcT, ↓bcF, WA, simprocAttr, wrI, List.length_map, own_iv, iV_frz, Nat.not_lt_zero, mendV]
    simp +contextual (maxSteps := 2000000) (disch := ((try unfold LIM at *); omega)) only [↓bcT, ↓bcF, WA, simprocAttr, wrI, bne_self_eq_false]
    refine CallThen.edit (walk18 (machM m fu) cg (by omega) hcg) [5] (by simp) ⟨.inl ⟨nrs_map iV_nr _, rfl⟩, trivial⟩ rfl 1000 ?_
    simp +contextual (maxSteps := 2000000) (disch := ((try unfold LIM at *); omega)) only [↓bcT, ↓bcF, WA, simprocAttr, wrI, WB8]
    have hm : ∀ cap, elsOf 0 (machM m fu).1.out.length (some ⟨(mkI 1 (machM m fu).1.out.length).map iV, 1, cap, true⟩) = some ((mkI 1 (machM m fu).1.out.length).map iV) := fun cap => by simp [elsOf, List.take_of_length_le, mkI_len]
    refine CallThen.borrow (walk19 (machM m fu).2.1 (machM m fu).2.2 (machM m fu).1.steps (machM m fu).1.out.length (by omega)) (flat_s _) 6 ?_ 1000 ?_
    · simp +contextual (maxSteps := 2000000) (disch := ((try unfold LIM at *); omega)) only [↓bcT, ↓bcF, WA, simprocAttr, wrI, List.length_map, hm, iV_frz, Nat.not_lt_zero]
    have pt : ¬ (1 : Int) + ((machM m fu).1.out.length : Int) < 0 := by omega
    simp +contextual (maxSteps := 2000000) (disch := ((try unfold LIM at *); omega)) only [↓bcT, ↓bcF, WA, simprocAttr, wrI, pt, bne_self_eq_false]
    refine CallThen.pure (walk8 m h1 h2 h4) 1000 ?_
    simp +contextual (maxSteps := 2000000) (disch := ((try unfold LIM at *); omega)) only [↓bcT, ↓bcF, WA, simprocAttr, wrI]
    refine CallThen.of 1000 (CallsV.lendT (calls16 m fu h1 h2 h3) endR_z 6 _ ?_) fun res h' hx => ?_
    · simp +contextual (maxSteps := 2000000) (disch := ((try unfold LIM at *); omega)) only [↓bcT, ↓bcF, WA, simprocAttr, wrI, imgV]
    obtain ⟨r, hh, k3, k4, k5⟩ := hx
    rw [endR, if_pos cc] at k3
    obtain ⟨ch, hch, rfl, rfl⟩ := k3
    subst k4; subst k5
    simp +contextual (maxSteps := 2000000) (disch := ((try unfold LIM at *); omega)) only [↓bcT, ↓bcF, WA, simprocAttr, wrI, rnRes]
    refine CallThen.borrow (walk17 (machM m fu)) (flat_s _) 6 ?_ 1000 ?_
    · simp +contextual (maxSteps := 2000000) (disch := ((try unfold LIM at *); omega)) only [↓bcT, ↓bcF, WA, simprocAttr, wrI, List.length_map, own_iv, iV_frz, Nat.not_lt_zero, mendV]
    simp +contextual (maxSteps := 2000000) (disch := ((try unfold LIM at *); omega)) only [↓bcT, ↓bcF, WA, simprocAttr, wrI, bne_self_eq_false]
    refine CallThen.borrow (walk19 (machM m fu).2.1 (machM m fu).2.2 (machM m fu).1.steps (machM m fu).1.out.length (by omega)) (flat_s _) 6 ?_ 1000 ?_
    · simp +contextual (maxSteps := 2000000) (disch := ((try unfold LIM at *); omega)) only [↓bcT, ↓bcF, WA, simprocAttr, wrI, List.length_map, hm, iV_frz, Nat.not_lt_zero]
    simp +contextual (maxSteps := 2000000) (disch := ((try unfold LIM at *); omega)) only [↓bcT, ↓bcF, WA, simprocAttr, wrI, pt, bne_self_eq_false]
  · have em : machM m fu = (m0, (3, 0)) := by unfold machM; rw [if_neg cc]; rfl
    rw [endR, if_neg cc] at k3
    obtain ⟨rfl, rfl⟩ := k3
    subst k4; subst k5
    rw [em]
    simp +contextual (maxSteps := 2000000) (disch := ((try unfold LIM at *); omega)) only [↓bcT, ↓bcF, WA, simprocAttr, wrI, rnRes, m0]
    refine CallThen.pure walk17z 1000 ?_
    simp +contextual (maxSteps := 2000000) (disch := ((try unfold LIM at *); omega)) only [↓bcT, ↓bcF, WA, simprocAttr, wrI, bne_self_eq_false]
    refine DrawThen.of 1000 [2, 3] (.old 0 (.old 1 (.go 2 (.go 3 (.new 4 .done))))) (panFree_pure _ _ _) (by kernel_rfl) (by kernel_rfl) (by kernel_rfl) ?_
    simp +contextual (maxSteps := 2000000) (disch := ((try unfold LIM at *); omega)) only [↓bcT, ↓bcF, WA, simprocAttr, wrI, imgV]
    refine DCall.pure (walk8 m h1 h2 h4) 1000 (.go 3 (.new 4 .done)) (by kernel_rfl) ?_
    simp +contextual (maxSteps := 2000000) (disch := ((try unfold LIM at *); omega)) only [↓bcT, ↓bcF, WA, simprocAttr, wrI, imgV]
    try simp +contextual (maxSteps := 2000000) (disch := ((try unfold LIM at *); omega)) only [↓bcT, ↓bcF, WA, simprocAttr, wrI, imgV]
    refine DCall.borrow (walk11 m) (flat_s _) 6 ?_ 1000 (.new 4 .done) (by kernel_rfl) ?_
    · simp +contextual (maxSteps := 2000000) (disch := ((try unfold LIM at *); omega)) only [↓bcT, ↓bcF, WA, simprocAttr, wrI, List.length_map, own_fn, own_ivL, fnL_frz, iV_frz, Nat.not_lt_zero, imgV]
    simp +contextual (maxSteps := 2000000) (disch := ((try unfold LIM at *); omega)) only [↓bcT, ↓bcF, WA, simprocAttr, wrI]
    try simp +contextual (maxSteps := 2000000) (disch := ((try unfold LIM at *); omega)) only [↓bcT, ↓bcF, WA, simprocAttr, wrI, imgV]
    skip
    refine CallThen.of 1000 (CallsV.frameL (calls12 m c1 c2 h1 h2 h4 h5 k1 k2) [2, 3] _ (by simp) ⟨.inl ⟨nrs_map fnL_nr _, rfl⟩, .inl ⟨nrs_map iV_nr _, rfl⟩, trivial⟩ rfl) fun res h' hx => ?_
    obtain ⟨r, hh, ⟨n, q1, q2⟩, k5, k6, k7⟩ := hx
    subst q1; subst q2; subst k6; subst k7
    have pn : ¬ (n : Int) < 0 := by omega
    simp +contextual (maxSteps := 2000000) (disch := ((try unfold LIM at *); omega)) only [↓bcT, ↓bcF, WA, simprocAttr, wrI, rnRes, rnB_dead, pn]
    refine CallThen.pure walk17z 1000 ?_
    simp +contextual (maxSteps := 2000000) (disch := ((try unfold LIM at *); omega)) only [↓bcT, ↓bcF, WA, simprocAttr, wrI, bne_self_eq_false]
    refine CallThen.pure walk18z 1000 ?_
    simp +contextual (maxSteps := 2000000) (disch := ((try unfold LIM at *); omega)) only [↓bcT, ↓bcF, WA, simprocAttr, wrI]
    refine CallThen.pure walk19z 1000 ?_
    simp +contextual (maxSteps := 2000000) (disch := ((try unfold LIM at *); omega)) only [↓bcT, ↓bcF, WA, simprocAttr, wrI, bne_self_eq_false]
    refine CallThen.pure (walk8 m h1 h2 h4) 1000 ?_
    simp +contextual (maxSteps := 2000000) (disch := ((try unfold LIM at *); omega)) only [↓bcT, ↓bcF, WA, simprocAttr, wrI]
    refine CallThen.of 1000 (CallsV.lendT (calls16 m fu h1 h2 h3) endR_z 6 _ ?_) fun res h' hx => ?_
    · simp +contextual (maxSteps := 2000000) (disch := ((try unfold LIM at *); omega)) only [↓bcT, ↓bcF, WA, simprocAttr, wrI, imgV]
    obtain ⟨r, hh, k3, k4, k5⟩ := hx
    rw [endR, if_neg cc] at k3
    obtain ⟨rfl, rfl⟩ := k3
    subst k4; subst k5
    simp +contextual (maxSteps := 2000000) (disch := ((try unfold LIM at *); omega)) only [↓bcT, ↓bcF, WA, simprocAttr, wrI, rnRes]
    refine CallThen.pure walk17z 1000 ?_
    simp +contextual (maxSteps := 2000000) (disch := ((try unfold LIM at *); omega)) only [↓bcT, ↓bcF, WA, simprocAttr, wrI, bne_self_eq_false]
    refine CallThen.pure walk19z 1000 ?_
    simp +contextual (maxSteps := 2000000) (disch := ((try unfold LIM at *); omega)) only [↓bcT, ↓bcF, WA, simprocAttr, wrI, bne_self_eq_false]
end Go.Proofs.YtlhkfjannhhcbaaGreatDoor
/- part N17 -/
set_option linter.unusedVariables false
set_option linter.unusedSimpArgs false
set_option maxRecDepth 100000
namespace Go.Proofs.YtlhkfjannhhcbaaGreatDoor
open Go Go.W Go.RowKit
theorem walk3 (m : Img) (fu : Int) : PureV C 3 [.agg (imgV m), .s (.int .i64 fu)] (.s (.bool true)) := by
  refine pure_of_run Tryz.func3 rfl (by kernel_rfl) (by kernel_rfl) (by simp) (fun _ => rfl) (fun _ => rfl) 6 1000 ?_
  simp +contextual (maxSteps := 2000000) (disch := ((try unfold LIM at *); omega)) only [↓bcT, ↓bcF, WA, simprocAttr, wrI, imgV]
  refine CallThen.pure (walk6 m 1048576 (by decide) (by decide)) 1000 ?_
  by_cases c : szImg m 1048576 < 0
  · simp +contextual (maxSteps := 2000000) (disch := ((try unfold LIM at *); omega)) only [↓bcT, ↓bcF, WA, simprocAttr, wrI, c]
  obtain ⟨h1, h2, h3, h4⟩ := szImg_len c
  have h5 := szImg_tot c
  obtain ⟨l1, l2⟩ := machM_len m fu
  simp +contextual (maxSteps := 2000000) (disch := ((try unfold LIM at *); omega)) only [↓bcT, ↓bcF, WA, simprocAttr, wrI, c]
  refine CallThen.pure (walk8 m h1 h2 h4) 1000 ?_
  simp +contextual (maxSteps := 2000000) (disch := ((try unfold LIM at *); omega)) only [↓bcT, ↓bcF, WA, simprocAttr, wrI, imgV]
  refine CallThen.pure (walk7 m fu h1 h2 h3) 1000 ?_
  cases hi : highM m fu with
  | none =>
    simp +contextual (maxSteps := 2000000) (disch := ((try unfold LIM at *); omega)) only [↓bcT, ↓bcF, WA, simprocAttr, wrI, highV]
    refine CallThen.of 1000 (CallsV.frameL (new8 m h1 h2 h4) [] _ (by simp) trivial rfl) fun res h' hx => ?_
    obtain ⟨r, hh, ⟨c1, c2, k1, k2, k3, k4⟩, k5, k6, k7⟩ := hx
    subst k3; subst k4; subst k6; subst k7
    have fnL_rn : ∀ ρ, ((m.funs.map fnL).map fun el => el.map (rnC ρ)) = m.funs.map fnL := fun ρ => congrArg Blk.els (nrs_rn (B := ⟨m.funs.map fnL, 6, c1, true⟩) ρ (nrs_map fnL_nr _))
    simp +contextual (maxSteps := 2000000) (disch := ((try unfold LIM at *); omega)) only [↓bcT, ↓bcF, WA, simprocAttr, wrI, rnRes, iV_rn, fnL_rn]
    refine CallThen.of 1000 (CallsV.lendT (calls9 m fu h1 h2 h3) highR_z 6 _ ?_) fun res h' hx => ?_
    · simp +contextual (maxSteps := 2000000) (disch := ((try unfold LIM at *); omega)) only [↓bcT, ↓bcF, WA, simprocAttr, wrI, List.length_map, own_fn, own_ivL, fnL_frz, iV_frz, Nat.not_lt_zero, imgV]
    obtain ⟨r, hh, k3, k4, k5⟩ := hx
    rw [highR, hi] at k3
    obtain ⟨rfl, rfl⟩ := k3
    subst k4; subst k5
    simp +contextual (maxSteps := 2000000) (disch := ((try unfold LIM at *); omega)) only [↓bcT, ↓bcF, WA, simprocAttr, wrI, rnRes]
    refine CallThen.pure walk10zz 1000 ?_
    simp +contextual (maxSteps := 2000000) (disch := ((try unfold LIM at *); omega)) only [↓bcT, ↓bcF, WA, simprocAttr, wrI, bne_self_eq_false]
    refine DrawThen.of 1000 [1, 2] (.old 0 (.old 1 (.go 2 (.go 3 (.new 4 .done))))) (panFree_pure _ _ _) (by kernel_rfl) (by kernel_rfl) (by kernel_rfl) ?_
    simp +contextual (maxSteps := 2000000) (disch := ((try unfold LIM at *); omega)) only [↓bcT, ↓bcF, WA, simprocAttr, wrI, imgV]
    refine DCall.pure (walk8 m h1 h2 h4) 1000 (.go 3 (.new 4 .done)) (by kernel_rfl) ?_
    simp +contextual (maxSteps := 2000000) (disch := ((try unfold LIM at *); omega)) only [↓bcT, ↓bcF, WA, simprocAttr, wrI, imgV]
    try simp +contextual (maxSteps := 2000000) (disch := ((try unfold LIM at *); omega)) only [↓bcT, ↓bcF, WA, simprocAttr, wrI, imgV]
    refine DCall.borrow (walk11 m) (flat_s _) 6 ?_ 1000 (.new 4 .done) (by kernel_rfl) ?_
    · simp +contextual (maxSteps := 2000000) (disch := ((try unfold LIM at *); omega)) only [↓bcT, ↓bcF, WA, simprocAttr, wrI, List.length_map, own_fn, own_ivL, fnL_frz, iV_frz, Nat.not_lt_zero, imgV]
    simp +contextual (maxSteps := 2000000) (disch := ((try unfold LIM at *); omega)) only [↓bcT, ↓bcF, WA, simprocAttr, wrI]
    try simp +contextual (maxSteps := 2000000) (disch := ((try unfold LIM at *); omega)) only [↓bcT, ↓bcF, WA, simprocAttr, wrI, imgV]
    skip
    refine CallThen.of 1000 (CallsV.frameL (calls12 m c1 c2 h1 h2 h4 h5 k1 k2) [1, 2] _ (by simp) ⟨.inl ⟨nrs_map fnL_nr _, rfl⟩, .inl ⟨nrs_map iV_nr _, rfl⟩, trivial⟩ rfl) fun res h' hx => ?_
    obtain ⟨r, hh, ⟨n, q1, q2⟩, k5, k6, k7⟩ := hx
    subst q1; subst q2; subst k6; subst k7
    have pn : ¬ (n : Int) < 0 := by omega
    simp +contextual (maxSteps := 2000000) (disch := ((try unfold LIM at *); omega)) only [↓bcT, ↓bcF, WA, simprocAttr, wrI, rnRes, rnB_dead, pn]
    refine CallThen.pure walk10zz 1000 ?_
    simp +contextual (maxSteps := 2000000) (disch := ((try unfold LIM at *); omega)) only [↓bcT, ↓bcF, WA, simprocAttr, wrI, bne_self_eq_false]
    refine CallThen.pure walk13z 1000 ?_
    simp +contextual (maxSteps := 2000000) (disch := ((try unfold LIM at *); omega)) only [↓bcT, ↓bcF, WA, simprocAttr, wrI]
    refine CallThen.pure walk14z 1000 ?_
    simp +contextual (maxSteps := 2000000) (disch := ((try unfold LIM at *); omega)) only [↓bcT, ↓bcF, WA, simprocAttr, wrI, bne_self_eq_false]
    refine CallThen.pure (walk8 m h1 h2 h4) 1000 ?_
    simp +contextual (maxSteps := 2000000) (disch := ((try unfold LIM at *); omega)) only [↓bcT, ↓bcF, WA, simprocAttr, wrI]
    refine CallThen.of 1000 (CallsV.lendT (calls9 m fu h1 h2 h3) highR_z 6 _ ?_) fun res h' hx => ?_
    · simp +contextual (maxSteps := 2000000) (disch := ((try unfold LIM at *); omega)) only [↓bcT, ↓bcF, WA, simprocAttr, wrI, imgV]
    obtain ⟨r, hh, k3, k4, k5⟩ := hx
    rw [highR, hi] at k3
    obtain ⟨rfl, rfl⟩ := k3
    subst k4; subst k5
    simp +contextual (maxSteps := 2000000) (disch := ((try unfold LIM at *); omega)) only [↓bcT, ↓bcF, WA, simprocAttr, wrI, rnRes]
    refine CallThen.pure walk10zz 1000 ?_
    simp +contextual (maxSteps := 2000000) (disch := ((try unfold LIM at *); omega)) only [↓bcT, ↓bcF, WA, simprocAttr, wrI, bne_self_eq_false]
    refine CallThen.pure walk14z 1000 ?_
    simp +contextual (maxSteps := 2000000) (disch := ((try unfold LIM at *); omega)) only [↓bcT, ↓bcF, WA, simprocAttr, wrI, bne_self_eq_false]
  | some l =>
    have ll : l.length ≤ 400000 := by
      unfold highM at hi
      split at hi
      · cases hi
      · cases hi; exact l2
    simp +contextual (maxSteps := 2000000) (disch := ((try unfold LIM at *); omega)) only [↓bcT, ↓bcF, WA, simprocAttr, wrI, highV]
    refine CallThen.of 1000 (CallsV.frameL (new8 m h1 h2 h4) [] _ (by simp) trivial rfl) fun res h' hx => ?_
    obtain ⟨r, hh, ⟨c1, c2, k1, k2, k3, k4⟩, k5, k6, k7⟩ := hx
    subst k3; subst k4; subst k6; subst k7
    have fnL_rn : ∀ ρ, ((m.funs.map fnL).map fun el => el.map (rnC ρ)) = m.funs.map fnL := fun ρ => congrArg Blk.els (nrs_rn (B := ⟨m.funs.map fnL, 6, c1, true⟩) ρ (nrs_map fnL_nr _))
    simp +contextual (maxSteps := 2000000) (disch := ((try unfold LIM at *); omega)) only [↓bcT, ↓bcF, WA, simprocAttr, wrI, rnRes, iV_rn, fnL_rn]
    refine CallThen.of 1000 (CallsV.lendT (calls9 m fu h1 h2 h3) highR_z 6 _ ?_) fun res h' hx => ?_
    · simp +contextual (maxSteps := 2000000) (disch := ((try unfold LIM at *); omega)) only [↓bcT, ↓bcF, WA, simprocAttr, wrI, List.length_map, own_fn, own_ivL, fnL_frz, iV_frz, Nat.not_lt_zero, imgV]
    obtain ⟨r, hh, k3, k4, k5⟩ := hx
    rw [highR, hi] at k3
    obtain ⟨cg, hcg, rfl, rfl⟩ := k3
    subst k4; subst k5
    simp +contextual (maxSteps := 2000000) (disch := ((try unfold LIM at *); omega)) only [↓bcT, ↓bcF, WA, simprocAttr, wrI, rnRes]
    refine CallThen.borrow (walk10 l) (flat_s _) 6 ?_ 1000 ?_
    · simp +contextual (maxSteps := 2000000) (disch := ((try unfold LIM at *); omega)) only [↓bcT, ↓bcF, WA, simprocAttr, wrI, List.length_map, own_ivL, iV_frz, Nat.not_lt_zero]
    simp +contextual (maxSteps := 2000000) (disch := ((try unfold LIM at *); omega)) only [↓bcT, ↓bcF, WA, simprocAttr, wrI, bne_self_eq_false]
    refine DrawThen.of 1000 [1, 2] (.old 0 (.old 1 (.go 2 (.go 3 (.new 4 .done))))) (panFree_pure _ _ _) (by kernel_rfl) (by kernel_rfl) (by kernel_rfl) ?_
    simp +contextual (maxSteps := 2000000) (disch := ((try unfold LIM at *); omega)) only [↓bcT, ↓bcF, WA, simprocAttr, wrI, imgV]
    refine DCall.pure (walk8 m h1 h2 h4) 1000 (.go 3 (.new 4 .done)) (by kernel_rfl) ?_
    simp +contextual (maxSteps := 2000000) (disch := ((try unfold LIM at *); omega)) only [↓bcT, ↓bcF, WA, simprocAttr, wrI, imgV]
    try simp +contextual (maxSteps := 2000000) (disch := ((try unfold LIM at *); omega)) only [↓bcT, ↓bcF, WA, simprocAttr, wrI, imgV]
    refine DCall.borrow (walk11 m) (flat_s _) 6 ?_ 1000 (.new 4 .done) (by kernel_rfl) ?_
    · simp +contextual (maxSteps := 2000000) (disch := ((try unfold LIM at *); omega)) only [↓bcT, ↓bcF, WA, simprocAttr, wrI, List.length_map, own_fn, own_ivL, fnL_frz, iV_frz, Nat.not_lt_zero, imgV]
    simp +contextual (maxSteps := 2000000) (disch := ((try unfold LIM at *); omega)) only [↓bcT, ↓bcF, WA, simprocAttr, wrI]
    try simp +contextual (maxSteps := 2000000) (disch := ((try unfold LIM at *); omega)) only [↓bcT, ↓bcF, WA, simprocAttr, wrI, imgV]
    skip
    refine CallThen.of 1000 (CallsV.frameL (calls12 m c1 c2 h1 h2 h4 h5 k1 k2) [1, 2] _ (by simp) ⟨.inl ⟨nrs_map fnL_nr _, rfl⟩, .inl ⟨nrs_map iV_nr _, rfl⟩, trivial⟩ rfl) fun res h' hx => ?_
    obtain ⟨r, hh, ⟨n, q1, q2⟩, k5, k6, k7⟩ := hx
    subst q1; subst q2; subst k6; subst k7
    have pn : ¬ (n : Int) < 0 := by omega
    simp +contextual (maxSteps := 2000000) (disch := ((try unfold LIM at *); omega)) only [↓bcT, ↓bcF, WA, simprocAttr, wrI, rnRes, rnB_dead, pn]
    refine CallThen.borrow (walk10 l) (flat_s _) 6 ?_ 1000 ?_
    · simp +contextual (maxSteps := 2000000) (disch := ((try unfold LIM at *); omega)) only [↓bcT, ↓bcF, WA, simprocAttr, wrI, List.length_map, own_ivL, iV_frz, Nat.not_lt_zero]
    simp +contextual (maxSteps := 2000000) (disch := ((try unfold LIM at *); omega)) only [↓bcT, ↓bcF, WA, simprocAttr, wrI, bne_self_eq_false]
    refine CallThen.edit (walk13 l 1 cg (by omega) hcg (by decide) (by decide)) [4] (by simp) ⟨.inl ⟨nrs_map iV_nr _, rfl⟩, trivial⟩ rfl 1000 ?_
    simp +contextual (maxSteps := 2000000) (disch := ((try unfold LIM at *); omega)) only [↓bcT, ↓bcF, WA, simprocAttr, wrI, WB8]
    have hm : ∀ cap, elsOf 0 l.length (some ⟨(mkI 1 l.length).map iV, 1, cap, true⟩) = some ((mkI 1 l.length).map iV) := fun cap => by simp [elsOf, List.take_of_length_le, mkI_len]
    have pt : ¬ (1 : Int) + (l.length : Int) < 0 := by omega
    refine CallThen.borrow (walk14 1 l.length (by omega) (by decide) (by decide)) (flat_s _) 6 ?_ 1000 ?_
    · simp +contextual (maxSteps := 2000000) (disch := ((try unfold LIM at *); omega)) only [↓bcT, ↓bcF, WA, simprocAttr, wrI, List.length_map, hm, iV_frz, Nat.not_lt_zero]
    simp +contextual (maxSteps := 2000000) (disch := ((try unfold LIM at *); omega)) only [↓bcT, ↓bcF, WA, simprocAttr, wrI, pt, bne_self_eq_false]
    refine CallThen.pure (walk8 m h1 h2 h4) 1000 ?_
    simp +contextual (maxSteps := 2000000) (disch := ((try unfold LIM at *); omega)) only [↓bcT, ↓bcF, WA, simprocAttr, wrI]
    refine CallThen.of 1000 (CallsV.lendT (calls9 m fu h1 h2 h3) highR_z 6 _ ?_) fun res h' hx => ?_
    · simp +contextual (maxSteps := 2000000) (disch := ((try unfold LIM at *); omega)) only [↓bcT, ↓bcF, WA, simprocAttr, wrI, imgV]
    obtain ⟨r, hh, k3, k4, k5⟩ := hx
    rw [highR, hi] at k3
    obtain ⟨ch, hch, rfl, rfl⟩ := k3
    subst k4; subst k5
    simp +contextual (maxSteps := 2000000) (disch := ((try unfold LIM at *); omega)) only [↓bcT, ↓bcF, WA, simprocAttr, wrI, rnRes]
    refine CallThen.borrow (walk10 l) (flat_s _) 6 ?_ 1000 ?_
    · simp +contextual (maxSteps := 2000000) (disch := ((try unfold LIM at *); omega)) only [↓bcT, ↓bcF, WA, simprocAttr, wrI, List.length_map, own_ivL, iV_frz, Nat.not_lt_zero]
    simp +contextual (maxSteps := 2000000) (disch := ((try unfold LIM at *); omega)) only [↓bcT, ↓bcF, WA, simprocAttr, wrI, bne_self_eq_false]
    refine CallThen.borrow (walk14 1 l.length (by omega) (by decide) (by decide)) (flat_s _) 6 ?_ 1000 ?_
    · simp +contextual (maxSteps := 2000000) (disch := ((try unfold LIM at *); omega)) only [↓bcT, ↓bcF, WA, simprocAttr, wrI, List.length_map, hm, iV_frz, Nat.not_lt_zero]
    simp +contextual (maxSteps := 2000000) (disch := ((try unfold LIM at *); omega)) only [↓bcT, ↓bcF, WA, simprocAttr, wrI, pt, bne_self_eq_false]
end Go.Proofs.YtlhkfjannhhcbaaGreatDoor
/- part BM -/
set_option maxRecDepth 100000
namespace Go.Proofs.YtlhkfjannhhcbaaGreatDoor
open Go Go.W Go.RowKit Go.ChangeShapes Go.WideShapes
theorem own0 : ownKnob Tryz.prog.godebug = none := by kernel_rfl
theorem laidOut0 : laidOutB Tryz.prog = true := by kernel_rfl
theorem gWords : Tryz.prog.globalNamed "loop.example/smithy/impl.primWords" = some 0 := by kernel_rfl
theorem tWords : (Tryz.prog.globals[0]?).map (·.type) = some 198 := by kernel_rfl
theorem uWords : Tryz.prog.underlying 198 = some (.array 14 9) := by kernel_rfl
def laidL : List (String × DataW Unit) := [("loop.example/smithy/impl.primWords", Rows.laid_loop_example_smithy_impl_primWords)]
theorem door_met (os : Os) (args : Array Value) : laidMetH Tryz.prog laidL ((World.doorLaid Tryz.prog 400 os).forCall (fun _ _ => 0) ⟨#[], args, []⟩).memory :=
  laidMetH_of_parts3 (fuel := 8) (laidMet_of_run' 8 (by kernel_rfl) (by kernel_rfl)) (by kernel_rfl) (by kernel_rfl)
theorem strs_of {H : Type} {enc : TypeId × Value → H} {W : World} {sp : Nat → Bool} {held : Bool} {m : Nat} {bs : List (List UInt8)} {cs : List Value} {xs : List (DataW H × List MemPlace)} (hx : xs.map (·.1) = bs.map fun b => .lit (.string b)) (hc : cs.length = bs.length)
    (h : ∀ i, i < bs.length → DataW.trod enc Tryz.prog W 0 sp held m 9 ((cs.drop (i * 1)).take 1) = xs[i]?) : cs = bs.map fun b => .string ⟨b.toArray⟩ := by
  refine List.ext_getElem (by simpa using hc) fun i h1 h2 => ?_
  have hi : i < bs.length := by omega
  have h3 := h i hi
  have hd : (cs.drop (i * 1)).take 1 = [cs[i]] := by rw [Nat.mul_one, List.drop_eq_getElem_cons h1]; rfl
  have hl : xs.length = bs.length := by simpa using congrArg List.length hx
  have hxi : xs[i]? = some (xs[i]'(by omega)) := List.getElem?_eq_getElem (by omega)
  rw [hd, hxi] at h3
  obtain ⟨s, e1, e2, _⟩ := DataW.trod_string Tryz.underlying9 h3
  have e3 := congrArg (fun l : List (DataW H) => l[i]?) hx
  simp only [List.getElem?_map, hxi, List.getElem?_eq_getElem hi, Option.map_some, Option.some.injEq] at e3
  rw [e2] at e3
  simp only [DataW.lit.injEq, Lit.string.injEq] at e3
  simp only [List.cons.injEq, and_true] at e1
  rw [List.getElem_map, e1, ← e3]
theorem relG_of {W : World} (h : laidMetH Tryz.prog laidL W) : RelG C (phi0 W).z := by
  rw [MakeChecks.laidMetH_plain _ _ _ (by kernel_rfl)] at h
  obtain ⟨ps, ⟨g0, t0, cs0, f0, p0, q0, hg0, ht0, hv0, hd0, _, _⟩, _, _⟩ := h
  obtain rfl := Option.some.inj (gWords.symm.trans hg0)
  obtain rfl := Option.some.inj (tWords.symm.trans ht0)
  obtain ⟨xs, m1, rfl, hx1, hlen, hn3, hel⟩ := DataW.trod_array uWords hd0
  have c9 : Tryz.prog.cellsOf 9 = 1 := by kernel_rfl
  have c198 : Tryz.prog.cellsOf 198 = 14 := by kernel_rfl
  rw [c9] at hel
  rw [c198] at hlen
  simp only [Prod.mk.injEq, Rows.laid_loop_example_smithy_impl_primWords, DataW.agg.injEq] at hx1
  have key := strs_of (bs := [[43], [45], [42], [47], [37], [60], [60, 61], [61], [110, 111, 116], [97, 116], [108, 101, 110], [112, 117, 116], [106, 111, 105, 110], [112, 114, 105, 110, 116]]) hx1.1.symm hlen hel
  intro g
  match g with
  | 0 =>
    rw [cg0]
    refine ⟨0, 0, rfl, rzs_of (cs := cs0.toList) ?_ fun i v e => ?_⟩
    · rw [key]
      repeat' apply And.intro
      all_goals first | trivial | (simp only [RZ, one]; exact ⟨rfl, rfl⟩)
    · have := World.var?_cell hg0 hv0 i
      show W.cell? ⟨0, 0 + i, none⟩ = some v
      rw [Nat.zero_add, this]; simpa using e
  | g + 1 =>
    have : C.g (g + 1) = .any := by simp [C]
    rw [this]; simp [RZ]
theorem pure_trueG {f : Nat} {args : List V} {W : World} {vs : Array Value} (hn : enters C.P f = true) (G : RelG C (phi0 W).z) (c : PureV C f args (.s (.bool true))) (ha : All2 (RelV (phi0 W)) args vs.toList) :
    Calls C.P f vs W fun e W' => e = .returned (.bool true) ∧ Below W.heap.size W W' := by
  rcases c.calls (fun _ => False) W (phi0 W) vs W G (rel0 W) ha with ⟨_, h⟩ | ⟨v, w', hv, _⟩
  · refine h.mono fun e W' ⟨r, φ', h', p1, p2, p3, p4, p5, p6⟩ => ?_
    subst p5
    obtain ⟨v, rfl, q⟩ := p1
    obtain ⟨rfl, -⟩ := s_rel q
    obtain ⟨F, R⟩ := p2
    exact ⟨rfl, R.kept.below⟩
  · exfalso
    unfold enters at hn
    cases hfn : C.P.funcs[f]? with
    | none => rw [hfn] at hn; cases hn
    | some fn =>
      rw [hfn] at hn
      simp only [Bool.and_eq_true, bne_iff_ne, ne_eq] at hn
      have h1 : ¬ fn.name = "runtime.NumGoroutine" := hn.1
      have h2 : fn.body.isNone = false := by
        cases hb : fn.body with
        | none => rw [hb] at hn; exact absurd hn.2 (by simp)
        | some _ => rfl
      simp only [callFunc, run_program, Sem.run_bind, Result.andThen_ok, hfn] at hv
      simp [h1, h2] at hv
section
variable {H' : Type} {enc : TypeId × Value → H'} {W : World}
theorem b3 : Tryz.prog.cellsOf 3 = 1 := by kernel_rfl
theorem b9 : Tryz.prog.cellsOf 9 = 1 := by kernel_rfl
theorem b23 : Tryz.prog.cellsOf 23 = 1 := by kernel_rfl
theorem b22 : Tryz.prog.cellsOf 22 = 1 := by kernel_rfl
theorem opn_ints : Go.W.Opn enc Tryz.prog W 23 fun xs => ∃ l : List Int, xs = [.f 1 (l.map iV)] := by
  have e1 : Go.W.Opn enc Tryz.prog W 23 fun xs => ∃ els, xs = [.f 1 els] ∧ ∀ el ∈ els, ∃ b : Int, el = iV b := opn_slice (n := 0) Tryz.underlying23 (by kernel_rfl) ((opn_int Tryz.underlying3).mono fun xs ⟨n, e, _⟩ => ⟨n, e⟩)
  refine e1.mono fun xs ⟨els, e, h⟩ => ?_
  obtain ⟨l, rfl⟩ := map_of h
  exact ⟨l, e⟩
theorem opn_ins : Go.W.Opn enc Tryz.prog W 150 fun xs => ∃ x : Ins, xs = insV x := by
  refine (opn_struct (gs := [_, _]) Tryz.underlying150 (by kernel_rfl) ⟨rfl, opn_int Tryz.underlying3, by simp only [b3], opn_int Tryz.underlying3, rfl⟩).mono fun xs g => ?_
  obtain ⟨_, _, rfl, ⟨n, rfl, _⟩, _, _, rfl, ⟨s, rfl, _⟩, rfl⟩ := g
  exact ⟨⟨n, s⟩, rfl⟩
theorem opn_inss : Go.W.Opn enc Tryz.prog W 66 fun xs => ∃ l : List Ins, xs = [.f 2 (l.map insV)] := by
  have e1 : Go.W.Opn enc Tryz.prog W 66 fun xs => ∃ els, xs = [.f 2 els] ∧ ∀ el ∈ els, ∃ x : Ins, el = insV x := opn_slice (n := 1) Tryz.underlying66 (by kernel_rfl) opn_ins
  refine e1.mono fun xs ⟨els, e, h⟩ => ?_
  obtain ⟨l, rfl⟩ := map_of h
  exact ⟨l, e⟩
theorem opn_fn : Go.W.Opn enc Tryz.prog W 68 fun xs => ∃ f : IFun, xs = fnV f := by
  refine (opn_struct (gs := [_, _, _, _, _, _]) Tryz.underlying68 (by kernel_rfl) ⟨rfl, opn_str Tryz.underlying9, by simp only [b9], opn_str Tryz.underlying9, by simp only [b9], opn_ints, by simp only [b9, b23], opn_int Tryz.underlying3, by simp only [b9, b23, b3], opn_int Tryz.underlying3, by simp only [b9, b23, b3], opn_inss, rfl⟩).mono fun xs g => ?_
  obtain ⟨_, _, rfl, ⟨m, rfl⟩, _, _, rfl, ⟨n, rfl⟩, _, _, rfl, ⟨l, rfl⟩, _, _, rfl, ⟨t, rfl, _⟩, _, _, rfl, ⟨s, rfl, _⟩, _, _, rfl, ⟨c, rfl⟩, rfl⟩ := g
  exact ⟨⟨m, n, l, t, s, c⟩, rfl⟩
theorem opn_fns : Go.W.Opn enc Tryz.prog W 22 fun xs => ∃ l : List IFun, xs = [.f 6 (l.map fnV)] := by
  have e1 : Go.W.Opn enc Tryz.prog W 22 fun xs => ∃ els, xs = [.f 6 els] ∧ ∀ el ∈ els, ∃ x : IFun, el = fnV x := opn_slice (n := 5) Tryz.underlying22 (by kernel_rfl) opn_fn
  refine e1.mono fun xs ⟨els, e, h⟩ => ?_
  obtain ⟨l, rfl⟩ := map_of h
  exact ⟨l, e⟩
theorem opn_img : Go.W.Opn enc Tryz.prog W 25 fun xs => ∃ m : Img, xs = imgV m := by
  refine (opn_struct (gs := [_, _]) Tryz.underlying25 (by kernel_rfl) ⟨rfl, opn_fns, by simp only [b22], opn_ints, rfl⟩).mono fun xs g => ?_
  obtain ⟨_, _, rfl, ⟨f, rfl⟩, _, _, rfl, ⟨l, rfl⟩, rfl⟩ := g
  exact ⟨⟨f, l⟩, rfl⟩
end
theorem words_stay {H : Type} {enc : TypeId × Value → H} {W W' : World} {gs : List (DataW H)} {q : List MemPlace} (hV : DataW.TrodVars enc Tryz.prog W (fun _ => true) ["loop.example/smithy/impl.primWords"] gs q) (bel : Below W.heap.size W W') :
    DataW.TrodVars enc Tryz.prog W' (fun b => decide (b < W.heap.size)) ["loop.example/smithy/impl.primWords"] gs q := by
  obtain ⟨g, t, cs, fuel, d, p', rfl, hg, ht, hvar, hd, rfl⟩ := trodVars_one hV
  obtain rfl := Option.some.inj (gWords.symm.trans hg)
  obtain rfl := Option.some.inj (tWords.symm.trans ht)
  have lt : ∀ x ∈ p', x.block < W.heap.size := DataW.trod_lt fuel _ _ _ hd
  have hT : DataW.Trod enc Tryz.prog W 0 (fun _ => true) true 198 (.agg cs) d p' := ⟨fuel, hd⟩
  obtain ⟨fuel', h'⟩ := Below.trod laidOut0 (by kernel_rfl) (of_decide_eq_true (by kernel_rfl)) hT bel lt
  have h0 : 0 < W.heap.size := by
    unfold World.var? at hvar
    rw [hg] at hvar
    simp only [Option.bind_some] at hvar
    by_cases z : 0 < W.heap.size
    · exact z
    · rw [Array.getElem?_eq_none (by omega)] at hvar; cases hvar
  have hv' : W'.var? Tryz.prog "loop.example/smithy/impl.primWords" = some cs := by
    rw [← hvar]
    simp only [World.var?, hg, Option.bind_some, bel.block 0 h0]
  exact trodVars_mk1 hg ht hv' h'
end Go.Proofs.YtlhkfjannhhcbaaGreatDoor
