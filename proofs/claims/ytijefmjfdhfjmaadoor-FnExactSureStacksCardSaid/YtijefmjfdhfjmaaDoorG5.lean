/- What functions of the program answer, walked on the abstract layer, and closed facts of the program; the conditions stand in each theorem. -/
import Derived.Test.YtijefmjfdhfjmaaDoorG4
/- part S9 -/
set_option linter.unusedVariables false
set_option linter.unusedSimpArgs false
set_option maxRecDepth 100000
namespace Go.Proofs.YtijefmjfdhfjmaaDoor
open Go Go.W Go.RowKit
theorem rdB_sur (m : Img) (fn at_ : Int) (x : V) : rdB (some (surB m fn at_ x)) 0 = some [.f 6 (m.funs.map fnV), .f 1 (m.mains.map iV), .s (.int .i64 fn), .s (.int .i64 at_), x] := rfl
/-! ### pop, where the slots are in hand -/
def hs4 (m : Img) (fn at_ : Int) (ats : Ats) (a : At) (c : Nat) : H := [surB m fn at_ (.sl 1 0 ats.length ats.length), atsB ats, ⟨[[.l 1 (a.stack.map iV), .sl 3 0 a.slots.length c]], 2, 1, true⟩, ⟨a.slots.map iV, 1, c, true⟩]
def popR4 (m : Img) (fn at_ : Int) (ats : Ats) (a : At) (k : Int) (c : Nat) : Except Int (V × H) := match popE a.stack k with
  | .ok st => .ok (.s (.int .i64 (a.stack.getLast?.getD 0)), hs4 m fn at_ ats ⟨st, a.slots⟩ c)
  | .error c => .error c
theorem fold_st4 {A B E : Blk} {els els' : List (List V)} {y : V} {len cap : Nat} (he : els.take len = els') (hl : els'.length = len) (hn : nrs els' = true) :
    folds (shrinks [A, B, ⟨[[.sl 4 0 len cap, y]], 2, 1, true⟩, E, ⟨els, 1, cap, true⟩] [(4, len)]) [(2, 0, 0)] = [A, B, ⟨[[.l 1 els', y]], 2, 1, true⟩, E, Blk.dead] := by
  simp [shrinks, shr1, folds, foldC, foldK, rdC, rdB, refB, ownOf, elsB, wrH, wrB, wrE, wrL, he, hl, hn]
theorem edit85b (m : Img) (fn at_ : Int) (ats : Ats) (a : At) (c : Nat) (hl : a.stack.length ≤ 100) : EditS C 85 [.ptr 0 0 0, .ptr 2 0 0, .s (.int .i64 0)] (hs4 m fn at_ ats a c) (popR4 m fn at_ ats a 0 c) fn at_ := by
  refine calls_of_run Tryd.func85 rfl (by kernel_rfl) (by kernel_rfl) (by simp) 1000 ?_
  obtain ⟨st, sl⟩ := a
  rcases List.eq_nil_or_concat st with rfl | ⟨l, v, rfl⟩
  · have e : popR4 m fn at_ ats ⟨[], sl⟩ 0 c = .error 4 := rfl
    rw [e]
    simp +contextual (maxSteps := 2000000) (disch := ((try unfold LIM at *); omega)) only [↓bcase_true, ↓bcase_false, WA, simprocAttr, wrap_i64, hs4, List.length_map]
    intro cap hc
    exact CallThen.refuse (m0 := m) (fn := fn) (at_ := at_) (c := 4) (x := .sl 1 0 ats.length ats.length) (rest := [atsB ats]) [0, 1] (by simp) ⟨.inr rfl, .inl ⟨ats_nr ats, rfl⟩, trivial⟩ rfl fun h1 _ => panQ rfl
  · simp only [List.concat_eq_append] at hl ⊢
    have hl1 : l.length + 1 ≤ 100 := by simpa using hl
    have hg1 : ((l ++ [v]).map iV)[l.length]? = some (iV v) := by simp
    have b1 : ¬ (l.length : Int) < 0 := by omega
    have b2 : (l.length : Int) < ((l.length + 1 : Nat) : Int) := by omega
    have b0 : (0 : Int) ≤ l.length := by omega
    have b3 : ((l.length + 1 : Nat) : Int) - 1 = l.length := by omega
    have b4 : (-9223372036854775808 : Int) ≤ l.length := by omega
    have b5 : (l.length : Int) ≤ 9223372036854775807 := by omega
    have fin : ∀ cap, Up 4 (fun res h' => res = .ret (.s (.int .i64 v)) ∧ h' = hs4 m fn at_ ats ⟨l, sl⟩ c) (.ret (.s (.int .i64 v))) [surB m fn at_ (.sl 1 0 ats.length ats.length), atsB ats, ⟨[[.sl 4 0 l.length cap, .sl 3 0 sl.length c]], 2, 1, true⟩, ⟨sl.map iV, 1, c, true⟩, ⟨(l ++ [v]).map iV, 1, cap, true⟩] := fun cap => by
      have eF := fold_st4 (A := surB m fn at_ (.sl 1 0 ats.length ats.length)) (B := atsB ats) (E := ⟨sl.map iV, 1, c, true⟩) (els := (l ++ [v]).map iV) (els' := l.map iV) (y := .sl 3 0 sl.length c) (len := l.length) (cap := cap) (by simp) (by simp) (nrs_map iV_nr l)
      refine Up.gcF (.s (.int .i64 v)) [(4, l.length)] [(2, 0, 0)] [0, 1, 2, 3] (hs4 m fn at_ ats ⟨l, sl⟩ c) (by simp) rfl ?_ rfl ⟨rfl, rfl⟩
      rw [eF]
      exact ⟨.inr rfl, .inl ⟨ats_nr ats, rfl⟩, .inr rfl, .inl ⟨nrs_map iV_nr _, rfl⟩, trivial⟩
    have ok : popR4 m fn at_ ats ⟨l ++ [v], sl⟩ 0 c = .ok (.s (.int .i64 v), hs4 m fn at_ ats ⟨l, sl⟩ c) := by simp [popR4, popE]
    simp only [hs4] at fin
    rw [ok]
    simp +contextual (maxSteps := 2000000) (disch := ((try unfold LIM at *); omega)) only [↓bcase_true, ↓bcase_false, WA, simprocAttr, wrap_i64, hs4, List.length_map, List.length_append, hg1, iV, b1, b2, b0, b3, b4, b5]
    exact fun cap hc => ⟨by omega, fin cap⟩
theorem primCell : ∀ j : Nat, j < 14 → (([.s (.string ⟨#[43]⟩), .s (.string ⟨#[45]⟩), .s (.string ⟨#[42]⟩), .s (.string ⟨#[47]⟩), .s (.string ⟨#[37]⟩), .s (.string ⟨#[60]⟩), .s (.string ⟨#[60, 61]⟩), .s (.string ⟨#[61]⟩), .s (.string ⟨#[110, 111, 116]⟩), .s (.string ⟨#[97, 116]⟩), .s (.string ⟨#[108, 101, 110]⟩), .s (.string ⟨#[112, 117, 116]⟩), .s (.string ⟨#[106, 111, 105, 110]⟩), .s (.string ⟨#[112, 114, 105, 110, 116]⟩)] : List V).drop j)[0]? = some (.s (.string (primW j)))
  | 0, _ => rfl
  | 1, _ => rfl
  | 2, _ => rfl
  | 3, _ => rfl
  | 4, _ => rfl
  | 5, _ => rfl
  | 6, _ => rfl
  | 7, _ => rfl
  | 8, _ => rfl
  | 9, _ => rfl
  | 10, _ => rfl
  | 11, _ => rfl
  | 12, _ => rfl
  | 13, _ => rfl
  | n + 14, h => absurd h (by omega)
theorem rnB_iV (ρ : Nat → Nat) (l : List Int) (c : Nat) : rnB ρ ⟨l.map iV, 1, c, true⟩ = ⟨l.map iV, 1, c, true⟩ := nrs_rn _ (nrs_map iV_nr l)
theorem rnB_nowP (ρ : Nat → Nat) (s : List (List V)) (b l c : Nat) : rnB ρ ⟨[[.l 1 s, .sl b 0 l c]], 2, 1, true⟩ = ⟨[[.l 1 s, .sl (ρ b) 0 l c]], 2, 1, true⟩ := rfl
def lookNow (fs : List IFun) (x : Ins) (a : At) : At := if x.op = 9 then ⟨a.stack.dropLast, a.slots⟩ else match turnE fs x a with
  | .ok a' => a'
  | .error _ => a
def lookR (m : Img) (fn : Int) (f : IFun) (i : Nat) (x : Ins) (ats : Ats) (a : At) : Except Int (V × H) := match lookE m.funs f i x ats a with
  | .ok ats' => .ok (.tup [], hs3 m fn i ats' (lookNow m.funs x a))
  | .error c => .error c
/-- What a walk of look starts from. -/
theorem edit72 (m : Img) (fn : Int) (f : IFun) (i : Nat) (x : Ins) (ats : Ats) (a : At) (n : Nat) (ha : AtsOk n ats) (hn : a.slots.length = n ∧ a.stack.length ≤ 100) (hn2 : n ≤ 1000) (hsl : f.slots = n) (hi : i ≤ 1000)
    (hx : insB x = true) (hft : typB f.typ = true) (hfs : ∀ g ∈ m.funs, typB g.typ = true) : EditS C 72 [.ptr 0 0 0, .ptr 2 0 0, .agg (fnV f), .agg (insV x)] (hs3 m fn i ats a) (lookR m fn f i x ats a) fn i := by
  refine calls_of_run Tryd.func72 rfl (by kernel_rfl) (by kernel_rfl) (by simp) 1000 ?_
  have g0 : ∀ b : At, gcL (emb [0, 1, 2] 5) [surB m fn i (.sl 1 0 ats.length ats.length), atsB ats, nowB b, ⟨[fnV f], 6, 1, true⟩, ⟨[insV x], 2, 1, true⟩] [0, 1, 2] (hs3 m fn i ats b) := fun b => ⟨.inr rfl, .inl ⟨ats_nr ats, rfl⟩, .inl ⟨now_nr _, rfl⟩, trivial⟩
  have fin : ∀ (ats' : Ats) (b : At) (rest : H), lookR m fn f i x ats a = .ok (.tup [], hs3 m fn i ats' b) → Up 3 (fun res h' => match lookR m fn f i x ats a with
      | .ok p => res = .ret p.1 ∧ h' = p.2
      | .error c => res = .pan (faultV c fn i)) (.ret (.tup [])) (surB m fn i (.sl 1 0 ats'.length ats'.length) :: atsB ats' :: nowB b :: rest) := fun ats' b rest e => by
    rw [e]
    exact Up.gcF (.tup []) [] [] [0, 1, 2] (hs3 m fn i ats' b) (by simp) rfl ⟨.inr rfl, .inl ⟨ats_nr _, rfl⟩, .inl ⟨now_nr _, rfl⟩, trivial⟩ rfl ⟨rfl, rfl⟩
  have pan : ∀ {c : Int} {τ : Tau} {h : H}, lookR m fn f i x ats a = .error c → bodyQ C 3 Tryd.f72 (fun res h' => match lookR m fn f i x ats a with
      | .ok p => res = .ret p.1 ∧ h' = p.2
      | .error c => res = .pan (faultV c fn i)) (.pan (faultV c fn i)) τ h := fun e => panQ (by rw [e])
  simp +contextual (maxSteps := 2000000) (disch := ((try unfold LIM at *); omega)) only [↓bcase_true, ↓bcase_false, WA, simprocAttr, wrap_i64, hs3, insV, fnV]
  refine CallThen.editS (edit84 m fn i ats x f.slots) [] [] [0, 1] _ rfl (by simp) ⟨.inr rfl, .inl ⟨ats_nr ats, rfl⟩, trivial⟩ rfl 1000 ?_ (fun c e => by cases e)
  rintro q hq
  cases hq
  cases hfo : formB m.funs.length f.slots i x
  · have e : lookR m fn f i x ats a = .error 3 := by simp [lookR, lookE, hfo]
    simp +contextual (maxSteps := 2000000) (disch := ((try unfold LIM at *); omega)) only [↓bcase_true, ↓bcase_false, WA, simprocAttr, wrap_i64, hs2, rnB_ats, rnB_sur]
    exact CallThen.refuse (m0 := m) (fn := fn) (at_ := i) (c := 3) (x := .sl 1 0 ats.length ats.length) (rest := [atsB ats]) [0, 1] (by simp) ⟨.inr rfl, .inl ⟨ats_nr ats, rfl⟩, trivial⟩ rfl fun h1 _ => pan e
  simp only [fnV, insV] at g0
  by_cases o1 : x.op = 1
  · have key : lookE m.funs f i x ats a = match pushE a.stack 1 with
        | .ok st => reachE ats (i + 1) ⟨st, a.slots⟩
        | .error e => .error e := by
      simp only [lookE, hfo, turnE, o1]
      cases pushE a.stack 1 <;> rfl
    have now' : ∀ {st}, pushE a.stack 1 = .ok st → lookNow m.funs x a = ⟨st, a.slots⟩ := fun h => by simp [lookNow, turnE, o1, h]
    simp +contextual (maxSteps := 2000000) (disch := ((try unfold LIM at *); omega)) only [↓bcase_true, ↓bcase_false, WA, simprocAttr, wrap_i64, hs2, rnB_ats, rnB_sur, o1]
    refine CallThen.editS (edit89 m fn i ats a 1 hn.2) [] [] [0, 1, 2] _ (rfl) (by simp) ⟨.inr rfl, .inl ⟨ats_nr ats, rfl⟩, .inl ⟨now_nr _, rfl⟩, trivial⟩ rfl 1000 ?_ ?_
    · intro q hq
      unfold pushR at hq
      split at hq
      · rename_i st hst
        cases hq
        have hln := pushE_len hst
        simp +contextual (maxSteps := 2000000) (disch := ((try unfold LIM at *); omega)) only [↓bcase_true, ↓bcase_false, WA, simprocAttr, wrap_i64, hs3, rnB_ats, rnB_now, rnB_sur, o1, rdB_sur, cast_succ]
        refine CallThen.editS (edit90 m fn i ats (i + 1) ⟨st, a.slots⟩ n ha ⟨hn.1, hln⟩ hn2) [] [] [0, 1, 2] _ rfl (by simp) ⟨.inr rfl, .inl ⟨ats_nr ats, rfl⟩, .inl ⟨now_nr _, rfl⟩, trivial⟩ rfl 1000 ?_ ?_
        · intro q hq
          unfold reachR at hq
          split at hq
          · rename_i ats' hat
            cases hq
            simp +contextual (maxSteps := 2000000) (disch := ((try unfold LIM at *); omega)) only [↓bcase_true, ↓bcase_false, WA, simprocAttr, wrap_i64, hs3, rnB_ats, rnB_now, rnB_sur]
            exact fin ats' _ _ (by simp only [lookR, key, hst, hat, now' hst])
          · cases hq
        · intro c hc h1 hl1
          unfold reachR at hc
          split at hc
          · cases hc
          · rename_i c' hat
            cases hc
            exact pan (by simp only [lookR, key, hst, hat])
      · cases hq
    · intro c hc h1 hl1
      unfold pushR at hc
      split at hc
      · cases hc
      · rename_i c' hst
        cases hc
        exact pan (by simp only [lookR, key, hst])
  by_cases o2 : x.op = 2
  · have key : lookE m.funs f i x ats a = match pushE a.stack 2 with
        | .ok st => reachE ats (i + 1) ⟨st, a.slots⟩
        | .error e => .error e := by
      simp only [lookE, hfo, turnE, o2]
      cases pushE a.stack 2 <;> rfl
    have now' : ∀ {st}, pushE a.stack 2 = .ok st → lookNow m.funs x a = ⟨st, a.slots⟩ := fun h => by simp [lookNow, turnE, o2, h]
    simp +contextual (maxSteps := 2000000) (disch := ((try unfold LIM at *); omega)) only [↓bcase_true, ↓bcase_false, WA, simprocAttr, wrap_i64, hs2, rnB_ats, rnB_sur, o2]
    refine CallThen.editS (edit89 m fn i ats a 2 hn.2) [] [] [0, 1, 2] _ (rfl) (by simp) ⟨.inr rfl, .inl ⟨ats_nr ats, rfl⟩, .inl ⟨now_nr _, rfl⟩, trivial⟩ rfl 1000 ?_ ?_
    · intro q hq
      unfold pushR at hq
      split at hq
      · rename_i st hst
        cases hq
        have hln := pushE_len hst
        simp +contextual (maxSteps := 2000000) (disch := ((try unfold LIM at *); omega)) only [↓bcase_true, ↓bcase_false, WA, simprocAttr, wrap_i64, hs3, rnB_ats, rnB_now, rnB_sur, o2, rdB_sur, cast_succ]
        refine CallThen.editS (edit90 m fn i ats (i + 1) ⟨st, a.slots⟩ n ha ⟨hn.1, hln⟩ hn2) [] [] [0, 1, 2] _ rfl (by simp) ⟨.inr rfl, .inl ⟨ats_nr ats, rfl⟩, .inl ⟨now_nr _, rfl⟩, trivial⟩ rfl 1000 ?_ ?_
        · intro q hq
          unfold reachR at hq
          split at hq
          · rename_i ats' hat
            cases hq
            simp +contextual (maxSteps := 2000000) (disch := ((try unfold LIM at *); omega)) only [↓bcase_true, ↓bcase_false, WA, simprocAttr, wrap_i64, hs3, rnB_ats, rnB_now, rnB_sur]
            exact fin ats' _ _ (by simp only [lookR, key, hst, hat, now' hst])
          · cases hq
        · intro c hc h1 hl1
          unfold reachR at hc
          split at hc
          · cases hc
          · rename_i c' hat
            cases hc
            exact pan (by simp only [lookR, key, hst, hat])
      · cases hq
    · intro c hc h1 hl1
      unfold pushR at hc
      split at hc
      · cases hc
      · rename_i c' hst
        cases hc
        exact pan (by simp only [lookR, key, hst])
  by_cases o9 : x.op = 9
  · have ft0 : f.typ ≠ 0 := by
      simp only [typB, rangeB, Bool.and_eq_true, decide_eq_true_eq] at hft; omega
    have key : lookE m.funs f i x ats a = match backE a.stack f.typ with
        | .ok _ => .ok ats
        | .error e => .error e := by
      simp only [lookE, hfo, o9]
      cases backE a.stack f.typ <;> simp
    have nw : lookNow m.funs x a = ⟨a.stack.dropLast, a.slots⟩ := by simp [lookNow, o9]
    have n2 := nrs_map iV_nr a.stack
    by_cases c1 : a.stack.length = 1
    · have c1' : (a.stack.length : Int) = 1 := by omega
      obtain ⟨v, hv⟩ : ∃ v, a.stack = [v] := by
        match hs : a.stack, c1 with
        | [v], _ => exact ⟨v, rfl⟩
      have hp2 : popE a.stack f.typ = if v = f.typ then .ok [] else .error 5 := by
        rw [hv]; by_cases h : v = f.typ <;> simp [popE, ft0, h]
      have hb2 : backE a.stack f.typ = if v = f.typ then .ok () else .error 5 := by
        rw [hv]; by_cases h : v = f.typ <;> simp [backE, h]
      simp +contextual (maxSteps := 2000000) (disch := ((try unfold LIM at *); omega)) only [↓bcase_true, ↓bcase_false, WA, simprocAttr, wrap_i64, hs2, rnB_ats, rnB_sur, o9, nowB, List.length_map, c1']
      intro cp1 hc1
      refine CallThen.editS (edit85 m fn i ats a f.typ hn.2) [] [(2, 0, 0)] [0, 1, 2] [surB m fn i (.sl 1 0 ats.length ats.length), atsB ats, nowB a, ⟨[fnV f], 6, 1, true⟩, ⟨[insV x], 2, 1, true⟩, Blk.dead] (by simp [folds, foldC, foldK, rdC, rdB, refB, ownOf, elsB, wrH, wrB, wrE, wrL, shrinks, shr1, gcL, n2, nowB, fnV, insV, o9]) (by simp) ⟨.inr rfl, .inl ⟨ats_nr ats, rfl⟩, .inl ⟨now_nr _, rfl⟩, trivial⟩ rfl 1000 ?_ ?_
      · intro q hq
        unfold popR at hq
        split at hq
        · rename_i st hst
          cases hq
          rw [hp2] at hst
          split at hst
          rotate_left
          · cases hst
          rename_i hvt
          have hst2 : st = a.stack.dropLast := by cases hst; rw [hv]; rfl
          rw [if_pos hvt] at hb2
          subst hst2
          simp +contextual (maxSteps := 2000000) (disch := ((try unfold LIM at *); omega)) only [↓bcase_true, ↓bcase_false, WA, simprocAttr, wrap_i64, hs3, rnB_ats, rnB_now, rnB_sur, fnV, insV]
          exact fin ats _ _ (by simp only [lookR, key, hb2, nw])
        · cases hq
      · intro c hc h1 hl1
        unfold popR at hc
        split at hc
        · cases hc
        · rename_i c' hst
          cases hc
          rw [hp2] at hst
          split at hst
          · cases hst
          rename_i hvt
          cases hst
          rw [if_neg hvt] at hb2
          exact pan (by simp only [lookR, key, hb2])
    · have c1' : ¬ (a.stack.length : Int) = 1 := by omega
      have hb : backE a.stack f.typ = .error 4 := by simp [backE, c1]
      simp +contextual (maxSteps := 2000000) (disch := ((try unfold LIM at *); omega)) only [↓bcase_true, ↓bcase_false, WA, simprocAttr, wrap_i64, hs2, rnB_ats, rnB_sur, o9, nowB, List.length_map, c1']
      intro cp1 hc1
      exact CallThen.refuse (m0 := m) (fn := fn) (at_ := i) (c := 4) (x := .sl 1 0 ats.length ats.length) (rest := [atsB ats]) [0, 1] (by simp) ⟨.inr rfl, .inl ⟨ats_nr ats, rfl⟩, trivial⟩ rfl fun h1 _ => pan (by simp only [lookR, key, hb])
  obtain ⟨k, hk⟩ : ∃ k : Nat, x.a = k ∧ k ≤ 1000 := by
    simp only [insB, o1, o2, o9, if_false, rangeB, Bool.and_eq_true, decide_eq_true_eq] at hx
    exact ⟨x.a.toNat, by omega, by omega⟩
  obtain ⟨hk, hkl⟩ := hk
  have kt : x.a.toNat = k := by omega
  have k0 : (0 : Int) ≤ k := by omega
  by_cases o3 : x.op = 3
  · have hks : k < a.slots.length := by
      simp [formB, o3] at hfo; omega
    obtain ⟨v, hv⟩ : ∃ v, a.slots[k]? = some v := ⟨_, List.getElem?_eq_getElem hks⟩
    have c1 : (k : Int) < a.slots.length := by omega
    have g1 : (a.slots.map iV)[k]? = some (iV v) := by rw [List.getElem?_map, hv]; rfl
    have key : lookE m.funs f i x ats a = if v = 0 then .error 5 else match pushE a.stack v with
        | .ok st => reachE ats (i + 1) ⟨st, a.slots⟩
        | .error e => .error e := by
      simp only [lookE, hfo, turnE, o3, kt, hv, Option.getD_some]
      by_cases h0 : v = 0
      · simp [h0]
      · cases hp : pushE a.stack v <;> simp [h0, hp]
    have now' : ∀ {st}, v ≠ 0 → pushE a.stack v = .ok st → lookNow m.funs x a = ⟨st, a.slots⟩ := fun h0 h => by simp [lookNow, turnE, o3, kt, hv, h0, h]
    have n2 := nrs_map iV_nr a.slots
    by_cases h0 : v = 0
    · simp +contextual (maxSteps := 2000000) (disch := ((try unfold LIM at *); omega)) only [↓bcase_true, ↓bcase_false, WA, simprocAttr, wrap_i64, hs2, rnB_ats, rnB_sur, o3, hk]
      refine DrawThen.of 1000 [2] (.old 0 (.old 1 (.old 2 (.old 4 (.old 5 (.go 3 (.new 6 (.go 7 (.new 8 .done))))))))) (panFree_body _ _) (by kernel_rfl) (by kernel_rfl) (by kernel_rfl) ?_
      simp +contextual (maxSteps := 2000000) (disch := ((try unfold LIM at *); omega)) only [↓bcase_true, ↓bcase_false, WA, simprocAttr, wrap_i64, nowB, List.length_map, k0, c1, g1, iV, h0]
      intro cp1 hc1
      try simp +contextual (maxSteps := 2000000) (disch := ((try unfold LIM at *); omega)) only [↓bcase_true, ↓bcase_false, WA, simprocAttr, wrap_i64, nowB, List.length_map, k0, c1, g1, iV, h0]
      repeat' apply And.intro
      all_goals
        exact CallThen.refuse (m0 := m) (fn := fn) (at_ := i) (c := 5) (x := .sl 1 0 ats.length ats.length) (rest := [atsB ats]) [0, 1] (by simp) ⟨.inr rfl, .inl ⟨ats_nr ats, rfl⟩, trivial⟩ rfl fun h1 _ => pan (by simp only [lookR, key, h0, if_true])
    · rw [if_neg h0] at key
      have now' : ∀ {st}, pushE a.stack v = .ok st → lookNow m.funs x a = ⟨st, a.slots⟩ := fun h => now' h0 h
      simp +contextual (maxSteps := 2000000) (disch := ((try unfold LIM at *); omega)) only [↓bcase_true, ↓bcase_false, WA, simprocAttr, wrap_i64, hs2, rnB_ats, rnB_sur, o3, hk]
      refine DrawThen.of 1000 [2] (.old 0 (.old 1 (.old 2 (.old 4 (.old 5 (.go 3 (.new 6 (.go 7 (.new 8 .done))))))))) (panFree_body _ _) (by kernel_rfl) (by kernel_rfl) (by kernel_rfl) ?_
      simp +contextual (maxSteps := 2000000) (disch := ((try unfold LIM at *); omega)) only [↓bcase_true, ↓bcase_false, WA, simprocAttr, wrap_i64, nowB, List.length_map, k0, c1, g1, iV, h0]
      intro cp1 hc1
      try simp +contextual (maxSteps := 2000000) (disch := ((try unfold LIM at *); omega)) only [↓bcase_true, ↓bcase_false, WA, simprocAttr, wrap_i64, nowB, List.length_map, k0, c1, g1, iV, h0]
      repeat' apply And.intro
      all_goals
        refine CallThen.editS (edit89 m fn i ats a v hn.2) [] [(2, 0, 1)] [0, 1, 2] [surB m fn i (.sl 1 0 ats.length ats.length), atsB ats, nowB a, ⟨[fnV f], 6, 1, true⟩, ⟨[insV x], 2, 1, true⟩, Blk.dead] (by simp [folds, foldC, foldK, rdC, rdB, refB, ownOf, elsB, wrH, wrB, wrE, wrL, shrinks, shr1, gcL, n2, nowB, fnV, insV, o3, hk]) (by simp) ⟨.inr rfl, .inl ⟨ats_nr ats, rfl⟩, .inl ⟨now_nr _, rfl⟩, trivial⟩ rfl 1000 ?_ ?_
        · intro q hq
          unfold pushR at hq
          split at hq
          · rename_i st hst
            cases hq
            have hln := pushE_len hst
            simp +contextual (maxSteps := 2000000) (disch := ((try unfold LIM at *); omega)) only [↓bcase_true, ↓bcase_false, WA, simprocAttr, wrap_i64, hs3, rnB_ats, rnB_now, rnB_sur, o3, hk, insV, fnV, rdB_sur, cast_succ]
            refine CallThen.editS (edit90 m fn i ats (i + 1) ⟨st, a.slots⟩ n ha ⟨hn.1, hln⟩ hn2) [] [] [0, 1, 2] _ rfl (by simp) ⟨.inr rfl, .inl ⟨ats_nr ats, rfl⟩, .inl ⟨now_nr _, rfl⟩, trivial⟩ rfl 1000 ?_ ?_
            · intro q hq
              unfold reachR at hq
              split at hq
              · rename_i ats' hat
                cases hq
                simp +contextual (maxSteps := 2000000) (disch := ((try unfold LIM at *); omega)) only [↓bcase_true, ↓bcase_false, WA, simprocAttr, wrap_i64, hs3, rnB_ats, rnB_now, rnB_sur]
                exact fin ats' _ _ (by simp only [lookR, key, hst, hat, now' hst])
              · cases hq
            · intro c hc h1 hl1
              unfold reachR at hc
              split at hc
              · cases hc
              · rename_i c' hat
                cases hc
                exact pan (by simp only [lookR, key, hst, hat])
          · cases hq
        · intro c hc h1 hl1
          unfold pushR at hc
          split at hc
          · cases hc
          · rename_i c' hst
            cases hc
            exact pan (by simp only [lookR, key, hst])
  by_cases o4 : x.op = 4
  · have hks : k < a.slots.length := by
      simp [formB, o4] at hfo; omega
    have c1 : (k : Int) < a.slots.length := by omega
    obtain ⟨v, hv⟩ : ∃ v, a.slots[k]? = some v := ⟨_, List.getElem?_eq_getElem hks⟩
    have g1 : (a.slots.map iV)[k]? = some (iV v) := by rw [List.getElem?_map, hv]; rfl
    generalize hlast : a.stack.getLast?.getD 0 = z
    have e6 : (a.slots.map iV).set k [V.s (.int .i64 z)] = (a.slots.set k z).map iV := by rw [List.map_set]; rfl
    have l6 : (a.slots.set k z).length = a.slots.length := by simp
    have n2 := nrs_map iV_nr (a.slots.set k z)
    have n3 : nrs ((a.slots.map iV).set k (iV z)) = true := by rw [← List.map_set]; exact n2
    have key : lookE m.funs f i x ats a = match popE a.stack 0 with
        | .ok st => reachE ats (i + 1) ⟨st, a.slots.set k z⟩
        | .error e => .error e := by
      simp only [lookE, hfo, turnE, o4, kt, hlast]
      cases popE a.stack 0 <;> simp
    have nw : ∀ {st}, popE a.stack 0 = .ok st → lookNow m.funs x a = ⟨st, a.slots.set k z⟩ := fun h => by simp [lookNow, turnE, o4, kt, hlast, h]
    simp +contextual (maxSteps := 2000000) (disch := ((try unfold LIM at *); omega)) only [↓bcase_true, ↓bcase_false, WA, simprocAttr, wrap_i64, hs2, rnB_ats, rnB_sur, o4, hk]
    refine DrawThen.of 1000 [0, 1, 2] (.old 0 (.old 1 (.old 2 (.old 4 (.old 5 (.old 6 (.old 7 (.or 3 (.go 8 (.new 9 (.go 10 .done))) (.go 8 (.go 3 (.new 9 (.go 10 .done)))))))))))) (panFree_body _ _) (by kernel_rfl) (by kernel_rfl) (by kernel_rfl) ?_
    simp +contextual (maxSteps := 2000000) (disch := ((try unfold LIM at *); omega)) only [↓bcase_true, ↓bcase_false, WA, simprocAttr, wrap_i64, nowB, List.length_map, k0, c1, g1, iV, e6, rdB_sur, cast_succ]
    refine ⟨?_, ?_⟩
    · intro cp1 hc1
      try simp +contextual (maxSteps := 2000000) (disch := ((try unfold LIM at *); omega)) only [↓bcase_true, ↓bcase_false, WA, simprocAttr, wrap_i64, nowB, List.length_map, k0, c1, g1, iV, e6, rdB_sur, cast_succ]
      first
        | refine DCall.editS (edit85b m fn i ats a cp1 hn.2) [] [0, 1, 2, 5] _ rfl (by simp) ⟨.inr rfl, .inl ⟨ats_nr ats, rfl⟩, .inr rfl, .inl ⟨nrs_map iV_nr _, rfl⟩, trivial⟩ rfl 1000 (.new 9 (.go 10 .done)) (by kernel_rfl) ?_ ?_
        | refine DCall.editS (edit85 m fn i ats a 0 hn.2) [] [0, 1, 2] _ rfl (by simp) ⟨.inr rfl, .inl ⟨ats_nr ats, rfl⟩, .inl ⟨now_nr _, rfl⟩, trivial⟩ rfl 1000 (.new 9 (.go 10 .done)) (by kernel_rfl) ?_ ?_
      rotate_left
      · intro c hc h1 hl1
        simp only [popR, popR4] at hc
        split at hc
        · cases hc
        · rename_i c' hst
          cases hc
          exact pan (by simp only [lookR, key, hst])
      intro q hq
      simp only [popR, popR4] at hq
      split at hq
      rotate_left
      · cases hq
      rename_i st hst
      cases hq
      have hln := popE_len hst
      simp only [hs3, hs4, hlast, List.map_cons, List.map_nil, rnB_ats, rnB_now, rnB_sur, rnB_iV, rnB_nowP]
      try simp +contextual (maxSteps := 2000000) (disch := ((try unfold LIM at *); omega)) only [↓bcase_true, ↓bcase_false, WA, simprocAttr, wrap_i64, nowB, List.length_map, k0, c1, g1, iV, e6, rdB_sur, cast_succ]
      repeat' apply And.intro
      all_goals
        refine CallThen.editS (edit90 m fn i ats (i + 1) (At.mk st (a.slots.set k z)) n ha (by simp only [l6]; exact ⟨hn.1, by omega⟩) hn2) [] [(2, 0, 1)] [0, 1, 2] [surB m fn i (.sl 1 0 ats.length ats.length), atsB ats, nowB (At.mk st (a.slots.set k z)), ⟨[fnV f], 6, 1, true⟩, ⟨[insV x], 2, 1, true⟩, Blk.dead] (by simp [folds, foldC, foldK, rdC, rdB, refB, ownOf, elsB, wrH, wrB, wrE, wrL, shrinks, shr1, gcL, n2, n3, l6, nowB, fnV, insV, o4, hk]) (by simp) ⟨.inr rfl, .inl ⟨ats_nr ats, rfl⟩, .inl ⟨now_nr _, rfl⟩, trivial⟩ rfl 1000 ?_ ?_
        · intro q hq
          unfold reachR at hq
          split at hq
          · rename_i ats' hat
            cases hq
            simp +contextual (maxSteps := 2000000) (disch := ((try unfold LIM at *); omega)) only [↓bcase_true, ↓bcase_false, WA, simprocAttr, wrap_i64, hs3, rnB_ats, rnB_now, rnB_sur, insV, fnV]
            exact fin ats' _ _ (by simp only [lookR, key, hat, hst, nw hst])
          · cases hq
        · intro c hc h1 hl1
          unfold reachR at hc
          split at hc
          · cases hc
          · rename_i c' hat
            cases hc
            exact pan (by simp only [lookR, key, hat, hst, nw hst])
    · first
        | refine DCall.editS (edit85b m fn i ats a cp1 hn.2) [] [0, 1, 2, 5] _ rfl (by simp) ⟨.inr rfl, .inl ⟨ats_nr ats, rfl⟩, .inr rfl, .inl ⟨nrs_map iV_nr _, rfl⟩, trivial⟩ rfl 1000 (.go 3 (.new 9 (.go 10 .done))) (by kernel_rfl) ?_ ?_
        | refine DCall.editS (edit85 m fn i ats a 0 hn.2) [] [0, 1, 2] _ rfl (by simp) ⟨.inr rfl, .inl ⟨ats_nr ats, rfl⟩, .inl ⟨now_nr _, rfl⟩, trivial⟩ rfl 1000 (.go 3 (.new 9 (.go 10 .done))) (by kernel_rfl) ?_ ?_
      rotate_left
      · intro c hc h1 hl1
        simp only [popR, popR4] at hc
        split at hc
        · cases hc
        · rename_i c' hst
          cases hc
          exact pan (by simp only [lookR, key, hst])
      intro q hq
      simp only [popR, popR4] at hq
      split at hq
      rotate_left
      · cases hq
      rename_i st hst
      cases hq
      have hln := popE_len hst
      simp only [hs3, hs4, hlast, List.map_cons, List.map_nil, rnB_ats, rnB_now, rnB_sur, rnB_iV, rnB_nowP]
      try simp +contextual (maxSteps := 2000000) (disch := ((try unfold LIM at *); omega)) only [↓bcase_true, ↓bcase_false, WA, simprocAttr, wrap_i64, nowB, List.length_map, k0, c1, g1, iV, e6, rdB_sur, cast_succ]
      intro cp1 hc1
      try simp +contextual (maxSteps := 2000000) (disch := ((try unfold LIM at *); omega)) only [↓bcase_true, ↓bcase_false, WA, simprocAttr, wrap_i64, nowB, List.length_map, k0, c1, g1, iV, e6, rdB_sur, cast_succ]
      repeat' apply And.intro
      all_goals
        refine CallThen.editS (edit90 m fn i ats (i + 1) (At.mk st (a.slots.set k z)) n ha (by simp only [l6]; exact ⟨hn.1, by omega⟩) hn2) [] [(2, 0, 1)] [0, 1, 2] [surB m fn i (.sl 1 0 ats.length ats.length), atsB ats, nowB (At.mk st (a.slots.set k z)), ⟨[fnV f], 6, 1, true⟩, ⟨[insV x], 2, 1, true⟩, Blk.dead] (by simp [folds, foldC, foldK, rdC, rdB, refB, ownOf, elsB, wrH, wrB, wrE, wrL, shrinks, shr1, gcL, n2, n3, l6, nowB, fnV, insV, o4, hk]) (by simp) ⟨.inr rfl, .inl ⟨ats_nr ats, rfl⟩, .inl ⟨now_nr _, rfl⟩, trivial⟩ rfl 1000 ?_ ?_
        · intro q hq
          unfold reachR at hq
          split at hq
          · rename_i ats' hat
            cases hq
            simp +contextual (maxSteps := 2000000) (disch := ((try unfold LIM at *); omega)) only [↓bcase_true, ↓bcase_false, WA, simprocAttr, wrap_i64, hs3, rnB_ats, rnB_now, rnB_sur, insV, fnV]
            exact fin ats' _ _ (by simp only [lookR, key, hat, hst, nw hst])
          · cases hq
        · intro c hc h1 hl1
          unfold reachR at hc
          split at hc
          · cases hc
          · rename_i c' hat
            cases hc
            exact pan (by simp only [lookR, key, hat, hst, nw hst])
  by_cases o6 : x.op = 6
  · have key : lookE m.funs f i x ats a = reachE ats k ⟨a.stack, a.slots⟩ := by
      simp only [lookE, hfo, turnE, o6, kt]; simp
    have nw : lookNow m.funs x a = a := by simp [lookNow, turnE, o6]
    simp +contextual (maxSteps := 2000000) (disch := ((try unfold LIM at *); omega)) only [↓bcase_true, ↓bcase_false, WA, simprocAttr, wrap_i64, hs2, rnB_ats, rnB_sur, o6, hk]
    refine CallThen.editS (edit90 m fn i ats k (At.mk a.stack a.slots) n ha hn hn2) [] [] [0, 1, 2] _ (rfl) (by simp) ⟨.inr rfl, .inl ⟨ats_nr ats, rfl⟩, .inl ⟨now_nr _, rfl⟩, trivial⟩ rfl 1000 ?_ ?_
    · intro q hq
      unfold reachR at hq
      split at hq
      · rename_i ats' hat
        cases hq
        simp +contextual (maxSteps := 2000000) (disch := ((try unfold LIM at *); omega)) only [↓bcase_true, ↓bcase_false, WA, simprocAttr, wrap_i64, hs3, rnB_ats, rnB_now, rnB_sur, o6, hk]
        exact fin ats' _ _ (by simp only [lookR, key, hat, nw])
      · cases hq
    · intro c hc h1 hl1
      unfold reachR at hc
      split at hc
      · cases hc
      · rename_i c' hat
        cases hc
        exact pan (by simp only [lookR, key, hat, nw])
  by_cases o7 : x.op = 7
  · have key : lookE m.funs f i x ats a = match popE a.stack 2 with
        | .ok st => (match reachE ats k ⟨st, a.slots⟩ with
          | .ok ats1 => reachE ats1 (i + 1) ⟨st, a.slots⟩
          | .error e => .error e)
        | .error e => .error e := by
      simp only [lookE, hfo, turnE, o7, kt]
      cases popE a.stack 2 with
      | error e => simp
      | ok st =>
        simp
        try (cases reachE ats k ⟨st, a.slots⟩ <;> rfl)
    have nw : ∀ {st}, popE a.stack 2 = .ok st → lookNow m.funs x a = ⟨st, a.slots⟩ := fun h => by simp [lookNow, turnE, o7, h]
    simp +contextual (maxSteps := 2000000) (disch := ((try unfold LIM at *); omega)) only [↓bcase_true, ↓bcase_false, WA, simprocAttr, wrap_i64, hs2, rnB_ats, rnB_sur, o7, hk]
    refine CallThen.editS (edit85 m fn i ats a 2 hn.2) [] [] [0, 1, 2] _ rfl (by simp) ⟨.inr rfl, .inl ⟨ats_nr ats, rfl⟩, .inl ⟨now_nr _, rfl⟩, trivial⟩ rfl 1000 ?_ ?_
    · intro q hq
      unfold popR at hq
      split at hq
      · rename_i st hst
        cases hq
        have hln := popE_len hst
        have hn1 : (At.mk st a.slots).slots.length = n ∧ (At.mk st a.slots).stack.length ≤ 100 := ⟨hn.1, by simp only; omega⟩
        simp +contextual (maxSteps := 2000000) (disch := ((try unfold LIM at *); omega)) only [↓bcase_true, ↓bcase_false, WA, simprocAttr, wrap_i64, hs3, rnB_ats, rnB_now, rnB_sur, rdB_sur, o7, hk]
        refine CallThen.editS (edit90 m fn i ats k (At.mk st a.slots) n ha hn1 hn2) [] [] [0, 1, 2] _ rfl (by simp) ⟨.inr rfl, .inl ⟨ats_nr ats, rfl⟩, .inl ⟨now_nr _, rfl⟩, trivial⟩ rfl 1000 ?_ ?_
        · intro q hq
          unfold reachR at hq
          split at hq
          · rename_i ats1 hat1
            cases hq
            have ha1 := reachE_ok ha hn1 hat1
            simp +contextual (maxSteps := 2000000) (disch := ((try unfold LIM at *); omega)) only [↓bcase_true, ↓bcase_false, WA, simprocAttr, wrap_i64, hs3, rnB_ats, rnB_now, rnB_sur, rdB_sur, o7, hk, cast_succ]
            refine CallThen.editS (edit90 m fn i ats1 (i + 1) (At.mk st a.slots) n ha1 hn1 hn2) [] [] [0, 1, 2] _ rfl (by simp) ⟨.inr rfl, .inl ⟨ats_nr ats1, rfl⟩, .inl ⟨now_nr _, rfl⟩, trivial⟩ rfl 1000 ?_ ?_
            · intro q hq
              unfold reachR at hq
              split at hq
              · rename_i ats' hat
                cases hq
                simp +contextual (maxSteps := 2000000) (disch := ((try unfold LIM at *); omega)) only [↓bcase_true, ↓bcase_false, WA, simprocAttr, wrap_i64, hs3, rnB_ats, rnB_now, rnB_sur]
                exact fin ats' _ _ (by simp only [lookR, key, hst, hat1, hat, nw hst])
              · cases hq
            · intro c hc h1 hl1
              unfold reachR at hc
              split at hc
              · cases hc
              · rename_i c' hat
                cases hc
                exact pan (by simp only [lookR, key, hst, hat1, hat])
          · cases hq
        · intro c hc h1 hl1
          unfold reachR at hc
          split at hc
          · cases hc
          · rename_i c' hat
            cases hc
            exact pan (by simp only [lookR, key, hst, hat])
      · cases hq
    · intro c hc h1 hl1
      unfold popR at hc
      split at hc
      · cases hc
      · rename_i c' hst
        cases hc
        exact pan (by simp only [lookR, key, hst])
  by_cases o5 : x.op = 5
  · obtain ⟨j, hj, hj2⟩ : ∃ j : Nat, k = j + 1 ∧ j < 14 := by
      simp [formB, o5] at hfo
      exact ⟨k - 1, by omega, by omega⟩
    have kj : (x.a - 1).toNat = j := by omega
    have kj2 : ((j + 1 : Nat) : Int) - 1 = j := by omega
    have j0 : (0 : Int) ≤ j := by omega
    have j1 : (j : Int) < 14 := by omega
    have hW := primCell j hj2
    have ht0 : ¬ (primT j).2 = 0 := by
      match j, hj2 with
      | 0, _ => decide
      | 1, _ => decide
      | 2, _ => decide
      | 3, _ => decide
      | 4, _ => decide
      | 5, _ => decide
      | 6, _ => decide
      | 7, _ => decide
      | 8, _ => decide
      | 9, _ => decide
      | 10, _ => decide
      | 11, _ => decide
      | 12, _ => decide
      | 13, _ => decide
      | n + 14, h => omega
    have key : lookE m.funs f i x ats a = match popsE a.stack ((primT j).1).reverse with
        | .ok st0 => (match pushE st0 (primT j).2 with
          | .ok st => reachE ats (i + 1) ⟨st, a.slots⟩
          | .error e => .error e)
        | .error e => .error e := by
      simp only [lookE, hfo, turnE, o5, kj]
      cases popsE a.stack ((primT j).1).reverse with
      | error e => simp
      | ok st0 =>
        simp
        try (cases pushE st0 (primT j).2 <;> rfl)
    have now' : ∀ {st0 st}, popsE a.stack ((primT j).1).reverse = .ok st0 → pushE st0 (primT j).2 = .ok st → lookNow m.funs x a = ⟨st, a.slots⟩ := fun h h' => by simp [lookNow, turnE, h, h', o5, kj]
    subst hj
    have w86 := walk86 j hj2
    unfold primRes at w86
    simp +contextual (maxSteps := 2000000) (disch := ((try unfold LIM at *); omega)) only [↓bcase_true, ↓bcase_false, WA, simprocAttr, wrap_i64, hs2, rnB_ats, rnB_sur, o5, hk, kj2, j0, j1, hW, Nat.mul_one, Int.toNat_natCast]
    refine CallThen.pure w86 1000 ?_
    simp +contextual (maxSteps := 2000000) (disch := ((try unfold LIM at *); omega)) only [↓bcase_true, ↓bcase_false, WA, simprocAttr, wrap_i64]
    refine CallThen.editS (edit87 m fn i ats a (primT j).1 hn.2) [] [] [0, 1, 2] _ rfl (by simp) ⟨.inr rfl, .inl ⟨ats_nr ats, rfl⟩, .inl ⟨now_nr _, rfl⟩, trivial⟩ rfl 1000 ?_ ?_
    rotate_left
    · intro c hc h1 hl1
      unfold popsR at hc
      split at hc
      · cases hc
      · rename_i c' hst0
        cases hc
        exact pan (by simp only [lookR, key, hst0])
    intro q hq
    unfold popsR at hq
    split at hq
    rotate_left
    · cases hq
    rename_i st0 hst0
    cases hq
    have hl0 := popsE_len hst0
    simp +contextual (maxSteps := 2000000) (disch := ((try unfold LIM at *); omega)) only [↓bcase_true, ↓bcase_false, WA, simprocAttr, wrap_i64, hs3, rnB_ats, rnB_now, rnB_sur, ht0]
    refine CallThen.editS (edit89 m fn i ats (At.mk st0 a.slots) (primT j).2 (by simp only; omega)) [] [] [0, 1, 2] _ (rfl) (by simp) ⟨.inr rfl, .inl ⟨ats_nr ats, rfl⟩, .inl ⟨now_nr _, rfl⟩, trivial⟩ rfl 1000 ?_ ?_
    · intro q hq
      simp only [pushR] at hq
      split at hq
      · rename_i st hst
        cases hq
        have hln := pushE_len hst
        simp +contextual (maxSteps := 2000000) (disch := ((try unfold LIM at *); omega)) only [↓bcase_true, ↓bcase_false, WA, simprocAttr, wrap_i64, hs3, rnB_ats, rnB_now, rnB_sur, o5, hk, rdB_sur, cast_succ]
        refine CallThen.editS (edit90 m fn i ats (i + 1) (At.mk st a.slots) n ha ⟨hn.1, hln⟩ hn2) [] [] [0, 1, 2] _ rfl (by simp) ⟨.inr rfl, .inl ⟨ats_nr ats, rfl⟩, .inl ⟨now_nr _, rfl⟩, trivial⟩ rfl 1000 ?_ ?_
        · intro q hq
          unfold reachR at hq
          split at hq
          · rename_i ats' hat
            cases hq
            simp +contextual (maxSteps := 2000000) (disch := ((try unfold LIM at *); omega)) only [↓bcase_true, ↓bcase_false, WA, simprocAttr, wrap_i64, hs3, rnB_ats, rnB_now, rnB_sur]
            exact fin ats' _ _ (by simp only [lookR, key, hst0, hst, hat, now' hst0 hst])
          · cases hq
        · intro c hc h1 hl1
          unfold reachR at hc
          split at hc
          · cases hc
          · rename_i c' hat
            cases hc
            exact pan (by simp only [lookR, key, hst0, hst, hat])
      · cases hq
    · intro c hc h1 hl1
      simp only [pushR] at hc
      split at hc
      · cases hc
      · rename_i c' hst
        cases hc
        exact pan (by simp only [lookR, key, hst0, hst])
  by_cases o10 : x.op = 10
  · have k17 : k < 17 := by
      simp [formB, o10] at hfo; omega
    have key : lookE m.funs f i x ats a = match popsE a.stack ((List.replicate k 1)).reverse with
        | .ok st0 => (match pushE st0 3 with
          | .ok st => reachE ats (i + 1) ⟨st, a.slots⟩
          | .error e => .error e)
        | .error e => .error e := by
      rw [List.reverse_replicate]
      simp only [lookE, hfo, turnE, o10, kt]
      cases popsE a.stack ((List.replicate k 1)) with
      | error e => simp
      | ok st0 =>
        simp
        try (cases pushE st0 3 <;> rfl)
    have now' : ∀ {st0 st}, popsE a.stack ((List.replicate k 1)).reverse = .ok st0 → pushE st0 3 = .ok st → lookNow m.funs x a = ⟨st, a.slots⟩ := fun h h' => by rw [List.reverse_replicate] at h; simp [lookNow, turnE, h, h', o10, kt]
    have er : List.replicate k [V.s (.int .i64 1)] = (List.replicate k (1 : Int)).map iV := by rw [List.map_replicate]; rfl
    have p88 := pure88 k k17
    rw [er] at p88
    simp +contextual (maxSteps := 2000000) (disch := ((try unfold LIM at *); omega)) only [↓bcase_true, ↓bcase_false, WA, simprocAttr, wrap_i64, hs2, rnB_ats, rnB_sur, o10, hk, List.replicate_succ, List.replicate_zero]
    refine CallThen.top 5 (by simp) (by simp) 6 (args' := [.f 1 [iV 1], .s (.int .i64 k)]) ⟨.inr rfl, .inl rfl, trivial⟩ ?_
    refine CallThen.pure p88 1000 ?_
    simp +contextual (maxSteps := 2000000) (disch := ((try unfold LIM at *); omega)) only [↓bcase_true, ↓bcase_false, WA, simprocAttr, wrap_i64, killFrom_eq]
    refine CallThen.editS (edit87 m fn i ats a (List.replicate k 1) hn.2) [] [] [0, 1, 2] _ rfl (by simp) ⟨.inr rfl, .inl ⟨ats_nr ats, rfl⟩, .inl ⟨now_nr _, rfl⟩, trivial⟩ rfl 1000 ?_ ?_
    rotate_left
    · intro c hc h1 hl1
      unfold popsR at hc
      split at hc
      · cases hc
      · rename_i c' hst0
        cases hc
        exact pan (by simp only [lookR, key, hst0])
    intro q hq
    unfold popsR at hq
    split at hq
    rotate_left
    · cases hq
    rename_i st0 hst0
    cases hq
    have hl0 := popsE_len hst0
    simp +contextual (maxSteps := 2000000) (disch := ((try unfold LIM at *); omega)) only [↓bcase_true, ↓bcase_false, WA, simprocAttr, wrap_i64, hs3, rnB_ats, rnB_now, rnB_sur]
    refine CallThen.editS (edit89 m fn i ats (At.mk st0 a.slots) 3 (by simp only; omega)) [] [] [0, 1, 2] _ (rfl) (by simp) ⟨.inr rfl, .inl ⟨ats_nr ats, rfl⟩, .inl ⟨now_nr _, rfl⟩, trivial⟩ rfl 1000 ?_ ?_
    · intro q hq
      simp only [pushR] at hq
      split at hq
      · rename_i st hst
        cases hq
        have hln := pushE_len hst
        simp +contextual (maxSteps := 2000000) (disch := ((try unfold LIM at *); omega)) only [↓bcase_true, ↓bcase_false, WA, simprocAttr, wrap_i64, hs3, rnB_ats, rnB_now, rnB_sur, o10, hk, rdB_sur, cast_succ]
        refine CallThen.editS (edit90 m fn i ats (i + 1) (At.mk st a.slots) n ha ⟨hn.1, hln⟩ hn2) [] [] [0, 1, 2] _ rfl (by simp) ⟨.inr rfl, .inl ⟨ats_nr ats, rfl⟩, .inl ⟨now_nr _, rfl⟩, trivial⟩ rfl 1000 ?_ ?_
        · intro q hq
          unfold reachR at hq
          split at hq
          · rename_i ats' hat
            cases hq
            simp +contextual (maxSteps := 2000000) (disch := ((try unfold LIM at *); omega)) only [↓bcase_true, ↓bcase_false, WA, simprocAttr, wrap_i64, hs3, rnB_ats, rnB_now, rnB_sur]
            exact fin ats' _ _ (by simp only [lookR, key, hst0, hst, hat, now' hst0 hst])
          · cases hq
        · intro c hc h1 hl1
          unfold reachR at hc
          split at hc
          · cases hc
          · rename_i c' hat
            cases hc
            exact pan (by simp only [lookR, key, hst0, hst, hat])
      · cases hq
    · intro c hc h1 hl1
      simp only [pushR] at hc
      split at hc
      · cases hc
      · rename_i c' hst
        cases hc
        exact pan (by simp only [lookR, key, hst0, hst])
  have o8 : x.op = 8 := by
    simp only [insB, o1, o2, o9, if_false, rangeB, Bool.and_eq_true, decide_eq_true_eq] at hx
    omega
  have kf : k < m.funs.length := by
    simp [formB, o8] at hfo; omega
  obtain ⟨g, hg⟩ : ∃ g, m.funs[k]? = some g := ⟨_, List.getElem?_eq_getElem kf⟩
  have hgt := hfs g (List.mem_of_getElem? hg)
  have ht0 : ¬ g.typ = 0 := by
    simp only [typB, rangeB, Bool.and_eq_true, decide_eq_true_eq] at hgt; omega
  have kf' : (k : Int) < m.funs.length := by omega
  have hgv : (m.funs.map fnV)[k]? = some (fnV g) := by rw [List.getElem?_map, hg]; rfl
  simp only [fnV] at hgv
  have key : lookE m.funs f i x ats a = match popsE a.stack (g.args).reverse with
      | .ok st0 => (match pushE st0 g.typ with
        | .ok st => reachE ats (i + 1) ⟨st, a.slots⟩
        | .error e => .error e)
      | .error e => .error e := by
    simp only [lookE, hfo, turnE, o8, kt, hg, Option.map_some, Option.getD_some]
    cases popsE a.stack (g.args).reverse with
    | error e => simp
    | ok st0 =>
      simp
      try (cases pushE st0 g.typ <;> rfl)
  have now' : ∀ {st0 st}, popsE a.stack (g.args).reverse = .ok st0 → pushE st0 g.typ = .ok st → lookNow m.funs x a = ⟨st, a.slots⟩ := fun h h' => by simp [lookNow, turnE, h, h', o8, kt, hg, Option.map_some, Option.getD_some]
  simp +contextual (maxSteps := 2000000) (disch := ((try unfold LIM at *); omega)) only [↓bcase_true, ↓bcase_false, WA, simprocAttr, wrap_i64, hs2, rnB_ats, rnB_sur, o8, hk]
  refine DrawThen.of 1000 [0, 1, 2] (.old 0 (.old 1 (.old 2 (.old 3 (.old 4 (.old 5 (.old 7 (.old 8 (.go 6 (.new 9 (.new 10 (.go 11 (.go 12 .done))))))))))))) (panFree_body _ _) (by kernel_rfl) (by kernel_rfl) (by kernel_rfl) ?_
  simp +contextual (maxSteps := 2000000) (disch := ((try unfold LIM at *); omega)) only [↓bcase_true, ↓bcase_false, WA, simprocAttr, wrap_i64, List.length_map, k0, kf', hgv, rdB_sur]
  refine DCall.editS (edit87 m fn i ats a g.args hn.2) [] [0, 1, 2] _ rfl (by simp) ⟨.inr rfl, .inl ⟨ats_nr ats, rfl⟩, .inl ⟨now_nr _, rfl⟩, trivial⟩ rfl 1000 .done (by kernel_rfl) ?_ ?_
  rotate_left
  · intro c hc h1 hl1
    unfold popsR at hc
    split at hc
    · cases hc
    · rename_i c' hst0
      cases hc
      exact pan (by simp only [lookR, key, hst0])
  intro q hq
  unfold popsR at hq
  split at hq
  rotate_left
  · cases hq
  rename_i st0 hst0
  cases hq
  have hl0 := popsE_len hst0
  simp only [hs3, List.map_cons, List.map_nil, rnB_ats, rnB_now, rnB_sur]
  try simp +contextual (maxSteps := 2000000) (disch := ((try unfold LIM at *); omega)) only [↓bcase_true, ↓bcase_false, WA, simprocAttr, wrap_i64, List.length_map, k0, kf', hgv, rdB_sur]
  refine DrawThen.of 1000 [] (.old 0 (.old 1 (.old 2 (.old 3 (.old 4 (.old 5 (.old 6 (.old 7 (.old 8 (.old 9 (.old 10 .done))))))))))) (panFree_body _ _) (by kernel_rfl) (by kernel_rfl) (by kernel_rfl) ?_
  simp +contextual (maxSteps := 2000000) (disch := ((try unfold LIM at *); omega)) only [↓bcase_true, ↓bcase_false, WA, simprocAttr, wrap_i64, rdB_sur, k0, kf', hgv, List.length_map, ht0]
  refine CallThen.editS (edit89 m fn i ats (At.mk st0 a.slots) g.typ (by simp only; omega)) [] [] [0, 1, 2] _ (rfl) (by simp) ⟨.inr rfl, .inl ⟨ats_nr ats, rfl⟩, .inl ⟨now_nr _, rfl⟩, trivial⟩ rfl 1000 ?_ ?_
  · intro q hq
    simp only [pushR] at hq
    split at hq
    · rename_i st hst
      cases hq
      have hln := pushE_len hst
      simp +contextual (maxSteps := 2000000) (disch := ((try unfold LIM at *); omega)) only [↓bcase_true, ↓bcase_false, WA, simprocAttr, wrap_i64, hs3, rnB_ats, rnB_now, rnB_sur, o8, hk, rdB_sur, cast_succ]
      refine CallThen.editS (edit90 m fn i ats (i + 1) (At.mk st a.slots) n ha ⟨hn.1, hln⟩ hn2) [] [] [0, 1, 2] _ rfl (by simp) ⟨.inr rfl, .inl ⟨ats_nr ats, rfl⟩, .inl ⟨now_nr _, rfl⟩, trivial⟩ rfl 1000 ?_ ?_
      · intro q hq
        unfold reachR at hq
        split at hq
        · rename_i ats' hat
          cases hq
          simp +contextual (maxSteps := 2000000) (disch := ((try unfold LIM at *); omega)) only [↓bcase_true, ↓bcase_false, WA, simprocAttr, wrap_i64, hs3, rnB_ats, rnB_now, rnB_sur]
          exact fin ats' _ _ (by simp only [lookR, key, hst0, hst, hat, now' hst0 hst])
        · cases hq
      · intro c hc h1 hl1
        unfold reachR at hc
        split at hc
        · cases hc
        · rename_i c' hat
          cases hc
          exact pan (by simp only [lookR, key, hst0, hst, hat])
    · cases hq
  · intro c hc h1 hl1
    simp only [pushR] at hc
    split at hc
    · cases hc
    · rename_i c' hst
      cases hc
      exact pan (by simp only [lookR, key, hst0, hst])
end Go.Proofs.YtijefmjfdhfjmaaDoor
/- part S10 -/
set_option linter.unusedVariables false
set_option linter.unusedSimpArgs false
set_option maxRecDepth 100000
namespace Go.Proofs.YtijefmjfdhfjmaaDoor
open Go Go.W Go.RowKit
def allR (m : Img) (fn : Int) (f : IFun) (res : Res) (h' : H) : Prop := match sureE m.funs f with
  | .ok ats => res = .ret (.tup []) ∧ ∃ k : Int, h' = [surB m fn k (.sl 1 0 ats.length ats.length), atsB ats]
  | .error e => res = .pan (faultV e.1 fn e.2)
theorem okF_facts {f : IFun} (h : okF f = true) : typB f.typ = true ∧ 0 ≤ f.slots ∧ f.slots ≤ 1000 ∧ f.code.length ≤ 460 ∧ f.args.length ≤ 4 ∧ f.code.all insB = true := by
  simp only [okF, headB, rangeB, Bool.and_eq_true, decide_eq_true_eq] at h
  exact ⟨h.1.1.2.1.2, h.1.1.2.2.1, h.1.1.2.2.2, h.1.2, h.1.1.2.1.1.2.1, h.2⟩
theorem calls45 (m : Img) (fn : Nat) (f : IFun) (hf : m.funs[fn]? = some f) (hm : m.funs.all okF = true) (hml : m.funs.length ≤ 72) : CallsV C 45 [.ptr 0 0 0] [surB m fn 0 .z] (allR m fn f) := by
  refine calls_of_run Tryd.func45 rfl (by kernel_rfl) (by kernel_rfl) (by simp) 1000 ?_
  have hok := List.all_eq_true.1 hm f (List.mem_of_getElem? hf)
  obtain ⟨ft, fs0, fs1, fc, fa, fi⟩ := okF_facts hok
  have hfs : ∀ g ∈ m.funs, typB g.typ = true := fun g hg => (okF_facts (List.all_eq_true.1 hm g hg)).1
  obtain ⟨n, hn, hn2⟩ : ∃ n : Nat, f.slots = n ∧ n ≤ 1000 := ⟨f.slots.toNat, by omega, by omega⟩
  have kf : fn < m.funs.length := (List.getElem?_eq_some_iff.1 hf).1
  have kf' : (fn : Int) < m.funs.length := by omega
  have k0 : (0 : Int) ≤ fn := by omega
  have hfv : (m.funs.map fnV)[fn]? = some (fnV f) := by rw [List.getElem?_map, hf]; rfl
  simp only [fnV] at hfv
  simp +contextual (maxSteps := 2000000) (disch := ((try unfold LIM at *); omega)) only [↓bcase_true, ↓bcase_false, WA, simprocAttr, wrap_i64, surB]
  refine DrawThen.of 1000 [] (.old 0 (.old 1 (.old 2 (.old 3 (.old 4 (.old 5 (.old 6 (.old 7 (.old 8 (.old 9 (.old 10 (.go 11 (.go 12 .done))))))))))))) (panFree_body _ _) (by kernel_rfl) (by kernel_rfl) (by kernel_rfl) ?_
  by_cases c1 : (n : Int) < f.args.length
  · have e : sureE m.funs f = .error (3, 0) := by simp [sureE, hn, c1]
    simp +contextual (maxSteps := 2000000) (disch := ((try unfold LIM at *); omega)) only [↓bcase_true, ↓bcase_false, WA, simprocAttr, wrap_i64, List.length_map, kf', k0, hfv, hn, c1]
    intros
    exact CallThen.refuse (m0 := m) (fn := fn) (at_ := 0) (c := 3) (x := .z) (rest := []) [0] (by simp) ⟨.inr rfl, trivial⟩ rfl fun h1 _ => panQ (by simp only [allR, e]; rfl)
  by_cases c2 : f.code = []
  · have e : sureE m.funs f = .error (7, 0) := by simp [sureE, hn, c1, c2]
    simp +contextual (maxSteps := 2000000) (disch := ((try unfold LIM at *); omega)) only [↓bcase_true, ↓bcase_false, WA, simprocAttr, wrap_i64, List.length_map, kf', k0, hfv, hn, c1, c2, List.length_nil]
    intros
    exact CallThen.refuse (m0 := m) (fn := fn) (at_ := 0) (c := 7) (x := .z) (rest := []) [0] (by simp) ⟨.inr rfl, trivial⟩ rfl fun h1 _ => panQ (by simp only [allR, e]; rfl)
  have c2n : 0 < f.code.length := List.length_pos_iff.2 c2
  have c2' : ¬ (f.code.length : Int) = 0 := by omega
  have b1 : (0 : Int) ≤ f.code.length := by omega
  have b2 : (8 : Int) * f.code.length ≤ 140737488355328 := by omega
  have b3 : (f.code.length : Int) ≤ 4611686018427387904 := by omega
  simp +contextual (maxSteps := 2000000) (disch := ((try unfold LIM at *); omega)) only [↓bcase_true, ↓bcase_false, WA, simprocAttr, wrap_i64, List.length_map, kf', k0, hfv, hn, c1, c2', b1, b2, b3, Int.le_refl]
  intros
  obtain ⟨z, hz⟩ : ∃ z : Nat, (n : Int) - f.args.length = z ∧ z ≤ 1000 := ⟨n - f.args.length, by omega, by omega⟩
  obtain ⟨hz, hz2⟩ := hz
  have b4 : (0 : Int) ≤ z := by omega
  have b5 : (8 : Int) * z ≤ 140737488355328 := by omega
  have b6 : (z : Int) ≤ 4611686018427387904 := by omega
  have b7 : (0 : Int) < f.code.length := by omega
  have b8 : (-9223372036854775808 : Int) ≤ z := by omega
  have b9 : (z : Int) ≤ 9223372036854775807 := by omega
  refine DrawThen.of 1000 [2] (.old 0 (.old 1 (.old 2 (.old 3 (.old 4 (.old 5 (.old 6 (.old 7 (.old 8 (.old 9 (.old 10 (.old 11 (.go 12 (.go 13 (.go 14 (.new 15 (.go 16 (.old 17 (.go 18 .done))))))))))))))))))) (panFree_body _ _) (by kernel_rfl) (by kernel_rfl) (by kernel_rfl) ?_
  simp +contextual (maxSteps := 2000000) (disch := ((try unfold LIM at *); omega)) only [↓bcase_true, ↓bcase_false, WA, simprocAttr, wrap_i64, List.length_map, hn, hz, b4, b5, b6, b7, b8, b9, Int.le_refl, List.length_replicate, List.replicate_zero, List.replicate_succ]
  intro _
  obtain ⟨q, hq⟩ : ∃ q, f.code.length = q + 1 := ⟨f.code.length - 1, by omega⟩
  have hz3 : (List.replicate z (0 : Int)).map iV = List.replicate z [V.s (.int .i64 0)] := by rw [List.map_replicate]; rfl
  refine DCall.newB (new71 f.args (List.replicate z 0) (by omega) (by simp; omega)) (plains_map iV_plain _) 6 ?_ 1000 (.new 15 (.go 16 (.old 17 (.go 18 .done)))) (by kernel_rfl) fun cp3 hc3 => ?_
  · simp +contextual (maxSteps := 2000000) (disch := ((try unfold LIM at *); omega)) only [↓bcase_true, ↓bcase_false, WA, simprocAttr, wrap_i64, hz3, List.length_replicate, List.map_replicate, Nat.le_refl, List.take_replicate, Nat.min_self, ite_true]
  have c7 : (0 : Int) < ((q + 1 : Nat) : Int) := by omega
  simp +contextual (maxSteps := 2000000) (disch := ((try unfold LIM at *); omega)) only [↓bcase_true, ↓bcase_false, WA, simprocAttr, wrap_i64, hq, List.length_map, List.replicate_succ, c7, Int.le_refl]
  have lsl : (f.args ++ List.replicate z (0 : Int)).length = n := by simp; omega
  have esure : sureE m.funs f = allE m.funs f f.code 0 (some ⟨[], f.args ++ List.replicate z 0⟩ :: List.replicate q none) := by
    have e1 : ¬ f.slots < f.args.length := by omega
    have e2 : (f.slots - f.args.length).toNat = z := by omega
    have e3 : f.code.length - 1 = q := by omega
    simp only [sureE, e1, if_false, c2, e2, e3]
  intro _
  refine LoopThen.arr (Arr.nilCell (b := 6) (m := 1) (els' := [[.sl 7 0 0 0, .sl 5 0 (f.args ++ List.replicate z (0 : Int)).length cp3]]) rfl ⟨⟨.inr ⟨rfl, rfl⟩, .inl rfl, trivial⟩, trivial⟩) (fun _ => rfl) ?_
  simp +contextual (maxSteps := 2000000) (disch := ((try unfold LIM at *); omega)) only [↓bcase_true, ↓bcase_false, WA, simprocAttr, wrap_i64]
  generalize f.args ++ List.replicate z (0 : Int) = sl at *
  refine LoopThen.ownF 1 (ι := Nat × Int × Ats) (fun s => s.1 ≤ q + 1 ∧ allE m.funs f (f.code.drop s.1) s.1 s.2.2 = sureE m.funs f ∧ AtsOk n s.2.2 ∧ s.2.2.length = q + 1)
    (fun s => [(0, .ptr 0 0 0), (2, .ptr 1 0 0), (58, .f 2 (f.code.map insV)), (59, .s (.int .i64 (q + 1 : Nat))), (60, .s (.int .i64 s.1))])
    (fun s => [surB m fn s.2.1 (.sl 2 0 (q + 1) (q + 1)), ⟨[fnV f], 6, 1, true⟩, atsB s.2.2]) (fun s => q + 1 - s.1) 1000 1000
    ⟨(0, 0, some ⟨[], sl⟩ :: List.replicate q none), ⟨Nat.zero_le _, esure.symm, ?_, by simp⟩, [(6, 0, 0), (6, 0, 1), (2, 0, 0)], [0, 1, 2], ⟨by simp, rfl⟩, ?_, by simp +contextual (maxSteps := 2000000) (disch := ((try unfold LIM at *); omega)) only [↓bcase_true, ↓bcase_false, WA, simprocAttr, wrap_i64, folds_length]⟩ ?_
  · intro a ha
    rcases List.mem_cons.1 ha with e | e
    · cases e; exact ⟨lsl, by simp⟩
    · exact absurd (List.mem_replicate.1 e).2 (by simp)
  · have n1 := nrs_map iV_nr sl
    have n0 : nrs [] = true := rfl
    have n2 : nrs [[V.l 1 [], V.l 1 (sl.map iV)]] = true := rfl
    simp [folds, foldC, foldK, rdC, rdB, refB, ownOf, elsB, wrH, wrB, wrE, wrL, shrinks, shr1, gcL, n0, n1, n2]
    refine ⟨.inr rfl, .inl ⟨rfl, by rw [fnV, hn]⟩, .inl ⟨ats_nr _, ?_⟩⟩
    simp [atsB, atC]
  · rintro ⟨i, at_, ats⟩ ⟨p1, p2, p3, p4⟩
    simp only at p1 p2 p3 p4
    by_cases c4 : i < q + 1
    · have c4' : (i : Int) < ((q + 1 : Nat) : Int) := by omega
      have pi : (0 : Int) ≤ i := by omega
      obtain ⟨x, hx⟩ : ∃ x, f.code[i]? = some x := ⟨f.code[i], List.getElem?_eq_getElem (by omega)⟩
      have hxv : (f.code.map insV)[i]? = some (insV x) := by rw [List.getElem?_map, hx]; rfl
      have hxb : insB x = true := List.all_eq_true.1 fi x (List.mem_of_getElem? hx)
      rw [List.drop_eq_getElem_cons (by omega : i < f.code.length), show f.code[i] = x from (List.getElem?_eq_some_iff.1 hx).2] at p2
      have pl : (i : Int) < ats.length := by omega
      obtain ⟨o, ho⟩ := get_lt pl
      have hov : (ats.map atC)[i]? = some (atC o) := by rw [List.getElem?_map, ho]; rfl
      cases o with
      | none =>
        simp only [allE, ho] at p2
        simp +contextual (maxSteps := 2000000) (disch := ((try unfold LIM at *); omega)) only [↓bcase_true, ↓bcase_false, WA, simprocAttr, wrap_i64, surB, atsB, List.length_map, c4', pi, hxv, hov, p4, insV, atC]
        refine CallThen.refuse (m0 := m) (fn := fn) (at_ := i) (c := 7) (x := .sl 1 0 (q + 1) (q + 1)) (rest := [atsB ats]) [0, 2] (by simp) ⟨.inr rfl, .inl ⟨ats_nr _, by rw [atsB, p4]; rfl⟩, trivial⟩ rfl fun h1 _ => ?_
        simp +contextual (maxSteps := 2000000) (disch := ((try unfold LIM at *); omega)) only [↓bcase_true, ↓bcase_false, WA, simprocAttr, wrap_i64]
        refine Up.refl (r := .pan _) ?_
        simp only [allR, ← p2]
      | some a =>
        have ha := p3 a (List.mem_of_getElem? ho)
        simp only [allE, ho] at p2
        simp +contextual (maxSteps := 2000000) (disch := ((try unfold LIM at *); omega)) only [↓bcase_true, ↓bcase_false, WA, simprocAttr, wrap_i64, surB, atsB, List.length_map, c4', pi, hxv, hov, p4, insV, atC]
        have n3 : nrs [[V.l 1 (a.stack.map iV), V.l 1 (a.slots.map iV)]] = true := rfl
        have hset : (ats.map atC).set i [.lp [.l 1 (a.stack.map iV), .l 1 (a.slots.map iV)]] = ats.map atC := set_same (by rw [List.getElem?_map, ho]; rfl)
        have hlt : i < ats.length := by omega
        have gs : ((ats.map atC).set i [V.ptr 4 0 0])[i]? = some [V.ptr 4 0 0] := by rw [List.getElem?_set_self (by rw [List.length_map]; omega)]
        refine DrawThen.of 1000 [0, 2, 4] (.old 0 (.old 1 (.old 2 (.old 3 (.old 5 (.old 9 (.old 10 (.go 4 (.new 6 (.go 7 (.go 8 (.go 11 .done)))))))))))) (panFree_loopN (panFree_body _ _)) (by kernel_rfl) (by kernel_rfl) (by kernel_rfl) ?_
        simp +contextual (maxSteps := 2000000) (disch := ((try unfold LIM at *); omega)) only [↓bcase_true, ↓bcase_false, WA, simprocAttr, wrap_i64, fnV, insV, List.length_map, c4', pi, p4, hov, atC, rnB_now, rnRes, WB9, gs]
        refine DCall.of 1000 (.go 11 .done) (by kernel_rfl) (CallsV.frameL (clone73 a ha.2 (by omega)) [4] _ (by simp) ⟨.inl ⟨now_nr a, rfl⟩, trivial⟩ rfl) fun res h' ⟨r, h1, ⟨q1, q2⟩, q3, q4, q5⟩ => ?_
        subst q1; subst q2; subst q4; subst q5
        try simp +contextual (maxSteps := 2000000) (disch := ((try unfold LIM at *); omega)) only [↓bcase_true, ↓bcase_false, WA, simprocAttr, wrap_i64, fnV, insV, List.length_map, c4', pi, p4, hov, atC, rnB_now, rnRes, WB9, gs]
        refine DCall.editS (edit72 m fn f i x ats a n p3 ha hn2 hn (by omega) hxb ft hfs) [(2, i, 0)] [0, 2, 5] [surB m fn i (.sl 2 0 (q + 1) (q + 1)), .dead, atsB ats, .dead, .dead, nowB a] ?_ (by simp) ?_ rfl 1000 .done (by kernel_rfl) ?_ ?_
        · show folds [surB m fn i (.sl 2 0 (q + 1) (q + 1)), .dead, ⟨(ats.map atC).set i [V.ptr 4 0 0], 1, q + 1, true⟩, .dead, nowB a, nowB a] [(2, i, 0)] = _
          have gs2 : ((ats.map atC).set i [V.ptr 4 0 0]).length = ats.length := by simp
          simp [folds, foldC, foldK, rdC, rdB, refB, ownOf, elsB, wrH, wrB, wrE, wrL, shrinks, shr1, gcL, n3, hset, gs, gs2, hlt, atsB, nowB, p4]
        · exact ⟨.inr (by rw [p4]; rfl), .inl ⟨ats_nr _, rfl⟩, .inl ⟨now_nr _, rfl⟩, trivial⟩
        · intro r hr
          unfold lookR at hr
          split at hr
          · rename_i ats' hats
            cases hr
            have hok2 := lookE_ok p3 ha hats
            rw [hats] at p2
            simp +contextual (maxSteps := 2000000) (disch := ((try unfold LIM at *); omega)) only [↓bcase_true, ↓bcase_false, WA, simprocAttr, wrap_i64, WB9, hs3, rnB_ats, rnB_now, rnB_sur, fnV, insV]
            refine ⟨(i + 1, i, ats'), ⟨⟨by simp only; omega, p2, hok2.1, by simp only; omega⟩, by simp only; omega⟩, [], [0, 1, 2], ⟨by simp, rfl⟩, ⟨?_, .inr rfl, .inl ⟨ats_nr _, rfl⟩, trivial⟩, by simp +contextual (maxSteps := 2000000) (disch := ((try unfold LIM at *); omega)) only [↓bcase_true, ↓bcase_false, WA, simprocAttr, wrap_i64, cast_succ]⟩
            refine .inr ?_
            rw [show ats'.length = q + 1 by omega]
            rfl
          · cases hr
        · intro c hc h1 hl1
          unfold lookR at hc
          split at hc
          · cases hc
          · rename_i c' hst
            cases hc
            simp +contextual (maxSteps := 2000000) (disch := ((try unfold LIM at *); omega)) only [↓bcase_true, ↓bcase_false, WA, simprocAttr, wrap_i64, WB9]
            refine Up.refl (r := .pan _) ?_
            simp only [allR]
            rw [← p2, hst]
        try simp +contextual (maxSteps := 2000000) (disch := ((try unfold LIM at *); omega)) only [↓bcase_true, ↓bcase_false, WA, simprocAttr, wrap_i64, fnV, insV, List.length_map, c4', pi, p4, hov, atC, rnB_now, rnRes, WB9, gs]
    · have e : i = q + 1 := by omega
      subst e
      have e2 : f.code.drop (q + 1) = [] := List.drop_of_length_le (by omega)
      rw [e2] at p2
      simp only [allE] at p2
      have c4' : ¬ ((q + 1 : Nat) : Int) < ((q + 1 : Nat) : Int) := by omega
      simp +contextual (maxSteps := 2000000) (disch := ((try unfold LIM at *); omega)) only [↓bcase_true, ↓bcase_false, WA, simprocAttr, wrap_i64, c4']
      refine Up.gcF (.tup []) [] [] [0, 2] [surB m fn at_ (.sl 1 0 ats.length ats.length), atsB ats] (by simp) rfl ⟨.inr (by rw [p4]; rfl), .inl ⟨ats_nr _, rfl⟩, trivial⟩ rfl ?_
      simp only [allR, ← p2]
      exact ⟨trivial, _, rfl⟩
end Go.Proofs.YtijefmjfdhfjmaaDoor
/- part W51 -/
set_option linter.unusedVariables false
set_option linter.unusedSimpArgs false
namespace Go.W
open Go Go.RowKit

/-! ### Blocks under new names, where the old ones are given up -/
/-- As gcOk, but a block may be named anew beside a dead one of its old name. -/
def gcOkM (l : List Nat) (h h' : H) (n0 : Nat) : Prop :=
  l.length = h'.length ∧ (∀ (i j : Nat) (B B' : Blk), h'[i]? = some B → B.live = true → h'[j]? = some B' → B'.live = true → l[i]? = l[j]? → i = j) ∧ n0 ≤ h'.length ∧ (∀ i, i < n0 → l[i]? = some i) ∧ ∀ i B', h'[i]? = some B' → B'.live = true → ∃ B, h[nm l h.length i]? = some B ∧ B = rnB (nm l h.length) B'
section
variable {S : Nat → Prop} {w0 w : World} {φ φ' : Phi} {h h' : H} {n0 : Nat}
theorem Arr.gcM {l : List Nat} (hg : gcOkM l h h' n0) : Arr n0 h h' fun x x' => x' = .any ∨ x = rnV (nm l h.length) x' := by
  intro S w0 φ w ⟨F, R⟩ hn
  obtain ⟨g1, g2, g3, g4, g5⟩ := hg
  let r := nm l h.length
  let φ' : Phi := ⟨fun i => if i < h'.length then φ.m (r i) else none, φ.z⟩
  have hrm : ∀ b p, φ.m (r b) = some p → φ'.m b = some p := fun b p hb => by
    show (if b < h'.length then φ.m (r b) else none) = some p
    by_cases q : b < h'.length
    · rw [if_pos q]; exact hb
    · have : r b = h.length := by
        show (l[b]?).getD h.length = h.length
        rw [List.getElem?_eq_none (by omega)]; rfl
      rw [this, R.dom _ (Nat.le_refl _)] at hb; cases hb
  have hr : Rn r φ φ' := ⟨hrm, FLe.refl _⟩
  have live : ∀ i : Nat, Decidable (∃ B : Blk, h'[i]? = some B ∧ B.live = true) := fun i => Classical.propDecidable _
  have F'def : ∃ F' : Nat → Fp, ∀ i : Nat, ((∃ B : Blk, h'[i]? = some B ∧ B.live = true) → F' i = F (r i)) ∧ (¬ (∃ B : Blk, h'[i]? = some B ∧ B.live = true) → F' i = []) :=
    ⟨fun i => @ite _ _ (live i) (F (r i)) [], fun i => ⟨fun q => by simp [q], fun q => by simp [q]⟩⟩
  obtain ⟨F', hF'⟩ := F'def
  have sub : ∀ i k, k ∈ F' i → (∃ B : Blk, h'[i]? = some B ∧ B.live = true) ∧ k ∈ F (r i) := fun i k hk => by
    by_cases q : ∃ B : Blk, h'[i]? = some B ∧ B.live = true
    · exact ⟨q, by rw [(hF' i).1 q] at hk; exact hk⟩
    · rw [(hF' i).2 q] at hk; simp at hk
  have inj : ∀ (i j : Nat) (B B' : Blk), h'[i]? = some B → B.live = true → h'[j]? = some B' → B'.live = true → r i = r j → i = j := by
    intro i j B B' hB lB hB' lB' e
    have hi' : i < l.length := by have := (List.getElem?_eq_some_iff.1 hB).1; omega
    have hj' : j < l.length := by have := (List.getElem?_eq_some_iff.1 hB').1; omega
    refine g2 i j B B' hB lB hB' lB' ?_
    have e1 : r i = l[i] := by show (l[i]?).getD h.length = _; rw [List.getElem?_eq_getElem hi']; rfl
    have e2 : r j = l[j] := by show (l[j]?).getD h.length = _; rw [List.getElem?_eq_getElem hj']; rfl
    rw [e1, e2] at e
    rw [List.getElem?_eq_getElem hi', List.getElem?_eq_getElem hj', e]
  refine ⟨φ', ⟨F', R.kept, fun b hb => ?_, R.zok, fun b k o hk => R.znot _ k o (sub b k hk).2, fun b k hk => R.mine _ k (sub b k hk).2, fun b => ?_, fun b b' k hk hk' => ?_, fun b hb => ?_, fun b B' hb => ?_⟩, ⟨fun b hb => ?_, FLe.refl _, fun _ _ _ e => .inl e⟩, g3, fun x x' v hm rv => ?_⟩
  · show (if b < h'.length then φ.m (r b) else none) = none
    rw [if_neg (by omega)]
  · by_cases q : ∃ B : Blk, h'[b]? = some B ∧ B.live = true
    · rw [(hF' b).1 q]; exact R.nodup _
    · rw [(hF' b).2 q]; exact List.nodup_nil
  · obtain ⟨⟨B, q1, l1⟩, q2⟩ := sub b k hk
    obtain ⟨⟨B2, q3, l3⟩, q4⟩ := sub b' k hk'
    exact inj b b' B B2 q1 l1 q3 l3 (R.disj _ _ k q2 q4)
  · exact (hF' b).2 fun ⟨B, q, _⟩ => by have := (List.getElem?_eq_some_iff.1 q).1; omega
  · by_cases hl : B'.live = true
    · rw [(hF' b).1 ⟨B', hb, hl⟩]
      obtain ⟨B, q1, rfl⟩ := g5 b B' hb hl
      have hlt : b < h'.length := (List.getElem?_eq_some_iff.1 hb).1
      have := R.blk _ _ q1
      unfold BlkRel at this ⊢
      rw [if_pos (by exact hl)] at this
      rw [if_pos hl]
      obtain ⟨p, k1, k2, k3, k4⟩ := this
      simp only [rnB] at k1 k2 k3 k4
      refine ⟨p, by show (if b < h'.length then φ.m (r b) else none) = _; rw [if_pos hlt]; exact k1, fun el he => ?_, by simpa using k3, ?_⟩
      · have := k2 (el.map (rnC r)) (List.mem_map.2 ⟨el, he, rfl⟩); simpa using this
      · cases p with
        | none => simp only at k4 ⊢; exact ⟨by simpa using k4.1, k4.2⟩
        | some k =>
          simp only at k4 ⊢
          obtain ⟨c, ty, fq, e1, e2, e3, e4, e5⟩ := k4
          exact ⟨c, ty, fq, e1, e2, by simpa using e3, lss_map (fun x v fp => Dc.rn hr) e4, e5⟩
    · rw [(hF' b).2 fun ⟨B, q, q'⟩ => by rw [hb] at q; cases q; exact hl q']
      unfold BlkRel; rw [if_neg hl]
  · show (if b < h'.length then φ.m (r b) else none) = φ.m b
    rw [if_pos (by omega)]
    have : r b = b := by show (l[b]?).getD h.length = b; rw [g4 b hb]; rfl
    rw [this]
  · rcases hm with rfl | rfl
    · exact relV_any
    · exact hr.v rv

end
/-- What is kept: of dead blocks nothing is asked. -/
def gcLM (r : Nat → Nat) (h : H) : List Nat → H → Prop
  | [], [] => True
  | i :: l, B' :: h' => (B' = Blk.dead ∨ (nrs B'.els = true ∧ h[i]? = some B') ∨ h[i]? = some (rnB r B')) ∧ gcLM r h l h'
  | _, _ => False
def livesOf : List Nat → H → List Nat
  | i :: l, B :: h => match B.live with
    | true => i :: livesOf l h
    | false => livesOf l h
  | _, _ => []
theorem livesOf_mem : ∀ {l : List Nat} {h : H} {i : Nat} {B : Blk}, l.length = h.length → h[i]? = some B → B.live = true → ∃ x, l[i]? = some x ∧ x ∈ livesOf l h
  | [], [], i, B, _, e, _ => by simp at e
  | [], _ :: _, i, B, hl, e, _ => by simp at hl
  | x :: l, [], i, B, hl, e, _ => by simp at e
  | x :: l, B0 :: h, 0, B, hl, e, q => by
    simp at e; subst e
    exact ⟨x, rfl, by simp [livesOf, q]⟩
  | x :: l, B0 :: h, i + 1, B, hl, e, q => by
    obtain ⟨y, h1, h2⟩ := livesOf_mem (l := l) (h := h) (i := i) (by simpa using hl) (by simpa using e) q
    refine ⟨y, by simpa using h1, ?_⟩
    simp only [livesOf]
    cases B0.live <;> simp [h2]
theorem livesOf_inj : ∀ {l : List Nat} {h : H}, l.length = h.length → (livesOf l h).Nodup → ∀ (i j : Nat) (B B' : Blk), h[i]? = some B → B.live = true → h[j]? = some B' → B'.live = true → l[i]? = l[j]? → i = j
  | [], [], _, _, i, j, B, B', e, _, _, _, _ => by simp at e
  | [], _ :: _, hl, _, i, j, B, B', e, _, _, _, _ => by simp at hl
  | x :: l, [], hl, _, i, j, B, B', e, _, _, _, _ => by simp at e
  | x :: l, B0 :: h, hl, hn, i, j, B, B', e, q, e', q', he => by
    have hl' : l.length = h.length := by simpa using hl
    have hn' : (livesOf l h).Nodup := by
      simp only [livesOf] at hn
      cases hb : B0.live <;> rw [hb] at hn
      · exact hn
      · exact (List.nodup_cons.1 hn).2
    match i, j with
    | 0, 0 => rfl
    | i + 1, j + 1 => exact congrArg (· + 1) (livesOf_inj hl' hn' i j B B' (by simpa using e) q (by simpa using e') q' (by simpa using he))
    | 0, j + 1 =>
      simp at e; subst e
      obtain ⟨y, h1, h2⟩ := livesOf_mem hl' (by simpa using e' : h[j]? = some B') q'
      have hy : y = x := by simp [h1] at he; exact he.symm
      simp only [livesOf, q] at hn
      exact absurd (hy ▸ h2) (List.nodup_cons.1 hn).1
    | i + 1, 0 =>
      simp at e'; subst e'
      obtain ⟨y, h1, h2⟩ := livesOf_mem hl' (by simpa using e : h[i]? = some B) q
      have hy : y = x := by simp [h1] at he; exact he
      simp only [livesOf, q'] at hn
      exact absurd (hy ▸ h2) (List.nodup_cons.1 hn).1
theorem gcLM_spec {r : Nat → Nat} {h : H} : ∀ {l : List Nat} {h' : H}, gcLM r h l h' → l.length = h'.length ∧ ∀ (i : Nat) B', h'[i]? = some B' → B'.live = true → ∃ b : Nat, l[i]? = some b ∧ h[b]? = some (rnB r B')
  | [], [], _ => ⟨rfl, fun i B' e => by simp at e⟩
  | [], _ :: _, h => h.elim
  | _ :: _, [], h => h.elim
  | b :: l, B' :: h', hg => by
    obtain ⟨h1, h2⟩ := gcLM_spec hg.2
    refine ⟨by simp [h1], fun i B e hl => ?_⟩
    cases i with
    | zero =>
      simp at e; subst e
      refine ⟨b, rfl, ?_⟩
      rcases hg.1 with q0 | ⟨q1, q2⟩ | q
      · subst q0; cases hl
      · rw [nrs_rn r q1]; exact q2
      · exact q
    | succ i => simp at e ⊢; exact h2 i B e hl
theorem gcOkM_of {n0 : Nat} {l : List Nat} {h h' : H} (hn : (livesOf l h').Nodup) (ht : l.take n0 = List.range n0) (hg : gcLM (nm l h.length) h l h') : gcOkM l h h' n0 := by
  obtain ⟨h1, h2⟩ := gcLM_spec hg
  have hl : n0 ≤ l.length := by
    have := congrArg List.length ht
    simp at this; omega
  refine ⟨h1, livesOf_inj h1 hn, by omega, fun i hi => ?_, fun i B' e lv => ?_⟩
  · have := congrArg (fun x : List Nat => x[i]?) ht
    simp only [List.getElem?_take_of_lt hi] at this
    rw [this]; simp [hi]
  · obtain ⟨b, e1, e2⟩ := h2 i B' e lv
    exact ⟨_, by rw [show nm l h.length i = b by unfold nm; rw [e1]; rfl]; exact e2, rfl⟩
section
variable {n0 : Nat} {h : H}
/-- The answer, where blocks that were handed over are given up. -/
theorem Up.gcM {R : Res → H → Prop} {r : V} (r' : V) (sh : List (Nat × Nat)) (fl : List (Nat × Nat × Nat)) (l : List Nat) (hs : H) (hn : (livesOf l hs).Nodup) (ht : l.take n0 = List.range n0) (hg : gcLM (nm l (folds (shrinks h sh) fl).length) (folds (shrinks h sh) fl) l hs)
    (he : r = rnV (nm l (folds (shrinks h sh) fl).length) r') (hr : R (.ret r') hs) : Up n0 R (.ret r) h :=
  ⟨r', hs, _, ((Arr.shrinks n0 sh h).trans (Arr.folds n0 fl _)).trans (Arr.gcM (gcOkM_of hn ht hg)), ⟨r, ⟨r, rfl, rfl⟩, .inr he⟩, hr⟩
end
section
variable {C : Cx} {N m n0 : Nat} {Q : QT} {k : List It} {τ : Tau} {h : H}
theorem Goes.foldG {K : Tau → H → Prop} (sh : List (Nat × Nat)) (fl : List (Nat × Nat × Nat)) (l : List Nat) (T : List (Nat × V)) (h' : H) (hn : (livesOf l h').Nodup) (hr : l.take n0 = List.range n0) (hg : gcLM (nm l (folds (shrinks h sh) fl).length) (folds (shrinks h sh) fl) l h') (ht : keepT τ (nm l (folds (shrinks h sh) fl).length) T)
    (hk : K (keepL T) h') : Goes n0 K τ h :=
  ⟨_, h', _, ((Arr.shrinks n0 sh h).trans (Arr.folds n0 fl _)).trans (Arr.gcM (gcOkM_of hn hr hg)), fun t => ⟨_, ⟨_, rfl, rfl⟩, keepT_spec ht t⟩, hk⟩
def FoldM (n0 : Nat) {ι : Type} (P : ι → Prop) (T : ι → List (Nat × V)) (Hp : ι → H) (τ : Tau) (h : H) : Prop :=
  ∃ i, P i ∧ ∃ (sh : List (Nat × Nat)) (fl : List (Nat × Nat × Nat)) (l : List Nat), ((livesOf l (Hp i)).Nodup ∧ l.take n0 = List.range n0) ∧ gcLM (nm l (folds (shrinks h sh) fl).length) (folds (shrinks h sh) fl) l (Hp i) ∧ keepT τ (nm l (folds (shrinks h sh) fl).length) (T i)
theorem LoopThen.ownG (n0 : Nat) {ι : Type} {body : Code} (P : ι → Prop) (T : ι → List (Nat × V)) (Hp : ι → H) (μ : ι → Nat) (m n : Nat) (h0 : FoldM n0 P T Hp τ h)
    (hr : ∀ i, P i → Run C N n0 n (loopN C N n0 m Q k (FoldM n0 (fun j => P j ∧ μ j < μ i) T Hp)) [.code body] (keepL (T i)) (Hp i)) : LoopThen C N n0 Q body k τ h := by
  classical
  intro hb hk
  let I : Tau → H → Prop := fun τ h => ∃ i, P i ∧ τ = keepL (T i) ∧ h = Hp i
  have nat_min : ∀ (p : Nat → Prop) (n : Nat), p n → ∃ n, p n ∧ ∀ m, p m → n ≤ m := by
    intro p n hn
    induction n using Nat.strongRecOn with
    | _ n ih =>
      by_cases q : ∃ m, m < n ∧ p m
      · obtain ⟨m, h1, h2⟩ := q; exact ih m h1 h2
      · exact ⟨n, hn, fun m hm => Nat.le_of_not_lt fun h => q ⟨m, h, hm⟩⟩
  let R : Tau → H → Nat → Prop := fun τ h n => ∃ i, P i ∧ τ = keepL (T i) ∧ h = Hp i ∧ μ i = n
  let M : Tau → H → Nat := fun τ h => if q : ∃ n, R τ h n then Classical.choose (nat_min (R τ h) _ (Classical.choose_spec q)) else 0
  have hM : ∀ τ h, I τ h → ∃ i, P i ∧ τ = keepL (T i) ∧ h = Hp i ∧ μ i = M τ h ∧ ∀ j, P j → τ = keepL (T j) → h = Hp j → M τ h ≤ μ j := by
    intro τ h ⟨i, h1, h2, h3⟩
    have q : ∃ n, R τ h n := ⟨μ i, i, h1, h2, h3, rfl⟩
    have e : M τ h = Classical.choose (nat_min (R τ h) _ (Classical.choose_spec q)) := dif_pos q
    have sp := Classical.choose_spec (nat_min (R τ h) _ (Classical.choose_spec q))
    rw [← e] at sp
    obtain ⟨⟨j, j1, j2, j3, j4⟩, j5⟩ := sp
    exact ⟨j, j1, j2, j3, j4, fun i' q1 q2 q3 => j5 (μ i') ⟨i', q1, q2, q3, rfl⟩⟩
  refine WC.loop I M ?_ fun τ h hI => ?_
  · obtain ⟨i, h1, sh, fl, l, ⟨h2, h2'⟩, h3, h4⟩ := h0
    exact Goes.foldG sh fl l (T i) (Hp i) h2 h2' h3 h4 ⟨i, h1, rfl, rfl⟩
  · obtain ⟨i, p1, e1, e2, e3, _⟩ := hM τ h hI
    subst e1; subst e2
    have := Run_sound n _ [.code body] (keepL (T i)) (Hp i) (by simp [itOk, hb]) (hr i p1)
    refine WC.mono this fun x τ' h' q => ?_
    cases x with
    | normal =>
      obtain ⟨j, ⟨q1, q2⟩, sh, fl, l, ⟨q3, q3'⟩, q4, q5⟩ := q
      refine Goes.foldG sh fl l (T j) (Hp j) q3 q3' q4 q5 ⟨⟨j, q1, rfl, rfl⟩, ?_⟩
      obtain ⟨j', _, _, _, _, r4⟩ := hM (keepL (T j)) (Hp j) ⟨j, q1, rfl, rfl⟩
      have := r4 j q1 rfl rfl
      omega
    | exit id =>
      refine semK_exit ?_
      simp only [SemK, loopN] at q
      cases hp : popTo id k with
      | none => rw [hp] at q; exact q
      | some k' => rw [hp] at q; exact Run_sound m Q k' τ' h' (popTo_ok hp hk) q
    | ret => exact semK_ret q
    | pan v => exact semK_pan q
end
theorem CallsDV.mono {D : Cx} {g : Nat} {args : List V} {h : H} {p : Option V} {R R' : Bool → H → Prop} (c : CallsDV D g args h p R) (hr : ∀ r h', R r h' → R' r h') : CallsDV D g args h p R' := by
  intro S w0 φ vs w pv G Rl ha hp
  obtain ⟨h1, h2⟩ := c S w0 φ vs w pv G Rl ha hp
  exact ⟨h1, h2.mono fun e u' w' ⟨rec, φ', h', v, q1, q2, q3, q4, q5, q6⟩ => ⟨rec, φ', h', v, q1, q2, q3, q4, q5, hr _ _ q6⟩⟩
section
variable {D : Cx} {N n0 : Nat} {Q : QT} {k : List It} {τ : Tau} {h : H} {d : Option Nat}
theorem CallThen.ofF {g : Nat} {args : List V} {R : Res → H → Prop} (fl : List (Nat × Nat × Nat)) (hF : H) (eF : folds h fl = hF) (m : Nat) (hc : CallsV D g args hF R) (hr : ∀ r h', R r h' → callQ D N n0 m Q k d τ r h') : CallThen D N n0 Q g args d k τ h := by
  subst eF
  exact CallThen.of m (CallsV.fold [] fl hc) hr
end
end Go.W
/- part S11 -/
set_option linter.unusedVariables false
set_option linter.unusedSimpArgs false
set_option maxRecDepth 100000
namespace Go.Proofs.YtijefmjfdhfjmaaDoor
open Go Go.W Go.RowKit
theorem calls44n (B0 : Blk) (els1 els2 : List (List V)) (n1 n2 : Nat) (rest : H) : CallsDV C 44 [.ptr 1 0 0, .ptr 2 0 0] (B0 :: ⟨els1, n1, 1, true⟩ :: ⟨els2, n2, 1, true⟩ :: rest) none fun rec h' => h' = B0 :: ⟨els1, n1, 1, true⟩ :: ⟨els2, n2, 1, true⟩ :: rest := by
  refine callsD_of_run Tryd.func44 rfl (by kernel_rfl) (by kernel_rfl) (by simp) (by kernel_rfl) rfl rfl rfl rfl rfl 1000 ?_
  simp +contextual (maxSteps := 2000000) (disch := ((try unfold LIM at *); omega)) only [↓bcase_true, ↓bcase_false, WA, simprocAttr, wrap_i64, headC, List.nil_append, List.cons_append, List.map_cons, List.map_nil, Option.isSome_none, pV]
  rfl
theorem setLast {α : Type} (l : List α) (x y : α) : (l ++ [x]).set l.length y = l ++ [y] := by simp
theorem c44ok (c f a : Int) : constOk (Value.agg #[Value.int IntKind.i64 c, Value.int IntKind.i64 f, Value.int IntKind.i64 a]) = true := by simp only [constOk, List.all_toArray]; rfl
theorem calls44p (c f a : Int) (B0 : Blk) (x y y' u : V) (rest : H) : CallsDV C 44 [.ptr 1 0 0, .ptr 2 0 0] (B0 :: ⟨[[x]], 1, 1, true⟩ :: ⟨[[y, y', u]], 3, 1, true⟩ :: rest) (some (faultV c f a)) fun rec h' => rec = true ∧ ∃ rest', h' = B0 :: ⟨[[.z]], 1, 1, true⟩ :: ⟨[[.s (.int .i64 c), .s (.int .i64 f), .s (.int .i64 a)]], 3, 1, true⟩ :: rest' := by
  refine callsD_of_run Tryd.func44 rfl (by kernel_rfl) (by kernel_rfl) (by simp) (by kernel_rfl) rfl rfl rfl rfl rfl 1000 ?_
  simp +contextual (maxSteps := 2000000) (disch := ((try unfold LIM at *); omega)) only [↓bcase_true, ↓bcase_false, WA, simprocAttr, wrap_i64, headC, List.nil_append, List.cons_append, List.map_cons, List.map_nil, Option.isSome_some, pV, faultV, conc28, c44ok, List.getElem?_concat_length, setLast, List.set_cons_succ, List.set_cons_zero]
  refine DrawThen.of 1000 [1, 2] (.old 0 (.go 1 (.go 2 .done))) (fun _ _ _ _ q => q) (by kernel_rfl) (by kernel_rfl) (by kernel_rfl) ?_
  have e1 : decide (1 < rest.length + 1 + 1 + 1 + 1) = true := by simp
  have e2 : decide (2 < rest.length + 1 + 1 + 1 + 1) = true := by simp
  have e3 : decide (rest.length + 1 + 1 + 1 < rest.length + 1 + 1 + 1 + 1) = true := by simp
  simp +contextual (maxSteps := 2000000) (disch := ((try unfold LIM at *); omega)) only [↓bcase_true, ↓bcase_false, WA, simprocAttr, wrap_i64, List.getElem?_concat_length, e1, e2, e3, WB9]
  refine ⟨by simp, ?_⟩
  rw [ite_self]
  exact ⟨rfl, _, rfl⟩
theorem mkSur (m : Img) (fn at_ : Int) (x : V) : (⟨[[.f 6 (m.funs.map fnV), .f 1 (m.mains.map iV), .s (.int .i64 fn), .s (.int .i64 at_), x]], 5, 1, true⟩ : Blk) = surB m fn at_ x := rfl
/-- What surely answers. -/
def surelyR (m : Img) (fn : Int) (f : IFun) (res : Res) (h' : H) : Prop := match sureE m.funs f with
  | .ok ats => res = .ret (.tup [.sl 0 0 ats.length ats.length, .agg [.s (.int .i64 0), .s (.int .i64 0), .s (.int .i64 0)]]) ∧ h' = [atsB ats]
  | .error e => res = .ret (.tup [.z, .agg [.s (.int .i64 e.1), .s (.int .i64 fn), .s (.int .i64 e.2)]]) ∧ h' = []
theorem calls24 (m : Img) (fn : Nat) (f : IFun) (hf : m.funs[fn]? = some f) (hm : m.funs.all okF = true) (hml : m.funs.length ≤ 72) : CallsV C 24 [.agg (imgV m), .s (.int .i64 fn)] [] (surelyR m fn f) := by
  refine calls_of_defer Tryd.func24 rfl (by kernel_rfl) (by kernel_rfl) (by simp) (pre := [_, _]) (os1 := [_]) rfl rfl rfl rfl rfl 1000 1000 ?_
  simp +contextual (maxSteps := 2000000) (disch := ((try unfold LIM at *); omega)) only [↓bcase_true, ↓bcase_false, WA, simprocAttr, wrap_i64, headC, List.nil_append, List.cons_append, List.map_cons, List.map_nil, imgV]
  simp +contextual (maxSteps := 2000000) (disch := ((try unfold LIM at *); omega)) only [↓bcase_true, ↓bcase_false, WA, simprocAttr, wrap_i64, defQ1, defK, defQ, Go.W.spine, List.nil_append, List.cons_append, List.append_eq, List.map_cons, List.map_nil]
  refine CallThen.of 1000 (CallsV.frameL (calls45 m fn f hf hm hml).nm [3] _ (by simp) ⟨.inl ⟨rfl, rfl⟩, trivial⟩ rfl) fun res h' ⟨r, h1, q1, q2, q3, q4⟩ => ?_
  subst q3; subst q4
  cases e : sureE m.funs f with
  | ok ats =>
    simp only [allR, e] at q1
    obtain ⟨rfl, k, rfl⟩ := q1
    simp +contextual (maxSteps := 2000000) (disch := ((try unfold LIM at *); omega)) only [↓bcase_true, ↓bcase_false, WA, simprocAttr, wrap_i64, surB, rnB_ats, rnB_sur, rnRes]
    refine CallsDV.mono (calls44n _ _ _ _ _ _) fun rec h' e' => ?_
    subst e'
    simp +contextual (maxSteps := 2000000) (disch := ((try unfold LIM at *); omega)) only [↓bcase_true, ↓bcase_false, WA, simprocAttr, wrap_i64]
    refine Up.gcF (.tup [.sl 0 0 ats.length ats.length, .agg [.s (.int .i64 0), .s (.int .i64 0), .s (.int .i64 0)]]) [] [] [4] [atsB ats] (by simp) rfl ⟨.inl ⟨ats_nr _, rfl⟩, trivial⟩ rfl ?_
    simp only [surelyR, e]
    exact ⟨trivial, trivial⟩
  | error c =>
    simp only [allR, e] at q1
    subst q1
    cases h1 with
    | nil => exact absurd q2 (by simp)
    | cons B h1 =>
    simp only [callQ, rnRes, defQ, setAll, List.map_cons, List.set_cons_succ, List.set_cons_zero, List.cons_append, List.nil_append, faultV, rnV]
    show CallsDV C 44 [.ptr 1 0 0, .ptr 2 0 0] (⟨[imgV m], 2, 1, true⟩ :: ⟨[[.z]], 1, 1, true⟩ :: ⟨[[.s (.int .i64 0), .s (.int .i64 0), .s (.int .i64 0)]], 3, 1, true⟩ :: _) (some (faultV c.1 fn c.2)) _
    refine CallsDV.mono (calls44p c.1 fn c.2 _ _ _ _ _ _) fun rec h' e' => ?_
    obtain ⟨rfl, rest', rfl⟩ := e'
    refine ⟨fun _ => ?_, fun q => by cases q⟩
    simp +contextual (maxSteps := 2000000) (disch := ((try unfold LIM at *); omega)) only [↓bcase_true, ↓bcase_false, WA, simprocAttr, wrap_i64]
    refine Up.gcF (.tup [.z, .agg [.s (.int .i64 c.1), .s (.int .i64 fn), .s (.int .i64 c.2)]]) [] [] [] [] (by simp) rfl trivial rfl ?_
    simp only [surelyR, e]
    exact ⟨trivial, trivial⟩
end Go.Proofs.YtijefmjfdhfjmaaDoor
/- part S12 -/
set_option linter.unusedVariables false
set_option linter.unusedSimpArgs false
set_option maxRecDepth 100000
namespace Go.Proofs.YtijefmjfdhfjmaaDoor
open Go Go.W Go.RowKit
def fltV (p : Int × Int × Int) : V := .agg [.s (.int .i64 p.1), .s (.int .i64 p.2.1), .s (.int .i64 p.2.2)]
theorem eqS28 : eqStruct C.P 28 = true := by kernel_rfl
theorem fk28 : fieldTK C.P 28 = [.int .i64, .int .i64, .int .i64] := by kernel_rfl
theorem kk28 (a b c : Int) : kindsOk [.int .i64, .int .i64, .int .i64] [.s (.int .i64 a), .s (.int .i64 b), .s (.int .i64 c)] = true := by simp [kindsOk]
theorem popE_nz {st : List Int} {k c : Int} (h : popE st k = .error c) : c ≠ 0 := by
  unfold popE at h
  split at h
  · cases h; decide
  · split at h
    · cases h; decide
    · cases h
theorem popsE_nz : ∀ {ks st : List Int} {c : Int}, popsE st ks = .error c → c ≠ 0
  | [], st, c, h => by simp only [popsE] at h; cases h
  | k :: ks, st, c, h => by
    simp only [popsE] at h
    split at h
    · exact popsE_nz h
    · rename_i h1; cases h; exact popE_nz h1
theorem pushE_nz {st : List Int} {k c : Int} (h : pushE st k = .error c) : c ≠ 0 := by
  unfold pushE at h
  split at h
  · cases h; decide
  · cases h
theorem reachE_nz {ats : Ats} {to : Nat} {now : At} {c : Int} (h : reachE ats to now = .error c) : c ≠ 0 := by
  unfold reachE at h
  split at h
  · cases h; decide
  · cases h
  · split at h
    · cases h
    · cases h; decide
theorem turnE_nz {fs : List IFun} {x : Ins} {now : At} {c : Int} (h : turnE fs x now = .error c) : c ≠ 0 := by
  have put : ∀ {st : Except Int (List Int)} {k c : Int}, (∀ c, st = .error c → c ≠ 0) → (match st with
    | .ok st => match pushE st k with
      | .ok st' => (.ok ⟨st', now.slots⟩ : Except Int At)
      | .error e => .error e
    | .error e => .error e) = .error c → c ≠ 0 := by
    intro st k c h0 h
    split at h
    · split at h
      · cases h
      · rename_i h1; cases h; exact pushE_nz h1
    · cases h; exact h0 _ rfl
  have ok : ∀ {st : List Int}, ∀ c, (.ok st : Except Int (List Int)) = .error c → c ≠ 0 := fun c e => by cases e
  unfold turnE at h
  simp only at h
  split at h
  · exact put (st := .ok now.stack) ok h
  split at h
  · exact put (st := .ok now.stack) ok h
  split at h
  · split at h
    · cases h; decide
    · exact put (st := .ok now.stack) ok h
  split at h
  · split at h
    · cases h
    · rename_i h1; cases h; exact popE_nz h1
  split at h
  · exact put (fun _ => popsE_nz) h
  split at h
  · split at h
    · cases h
    · rename_i h1; cases h; exact popE_nz h1
  split at h
  · exact put (fun _ => popsE_nz) h
  split at h
  · exact put (fun _ => popsE_nz) h
  · cases h
theorem lookE_nz {fs : List IFun} {f : IFun} {i : Nat} {x : Ins} {ats : Ats} {now : At} {c : Int} (h : lookE fs f i x ats now = .error c) : c ≠ 0 := by
  unfold lookE at h
  split at h
  · cases h; decide
  split at h
  · split at h
    · cases h
    · rename_i h1; cases h
      unfold backE at h1
      split at h1
      · cases h1; decide
      split at h1
      · cases h1; decide
      · cases h1
  split at h
  · rename_i h1; cases h; exact turnE_nz h1
  · split at h
    · exact reachE_nz h
    split at h
    · split at h
      · exact reachE_nz h
      · rename_i h1; cases h; exact reachE_nz h1
    · exact reachE_nz h
theorem allE_nz {fs : List IFun} {f : IFun} : ∀ {l : List Ins} {i : Nat} {ats : Ats} {c : Int × Nat}, allE fs f l i ats = .error c → c.1 ≠ 0
  | [], i, ats, c, h => by simp only [allE] at h; cases h
  | x :: r, i, ats, c, h => by
    simp only [allE] at h
    split at h
    · split at h
      · exact allE_nz h
      · rename_i h1; cases h; exact lookE_nz h1
    · cases h; show (7 : Int) ≠ 0; decide
theorem sureE_nz {fs : List IFun} {f : IFun} {c : Int × Nat} (h : sureE fs f = .error c) : c.1 ≠ 0 := by
  unfold sureE at h
  split at h
  · cases h; show (3 : Int) ≠ 0; decide
  split at h
  · cases h; show (7 : Int) ≠ 0; decide
  · exact allE_nz h
theorem imgB_all {m : Img} (h : imgB m = true) : m.funs.all okF = true ∧ m.funs.length ≤ 72 ∧ m.mains.length ≤ 8 ∧ ∀ x ∈ m.mains, ∃ k : Nat, x = k ∧ k < m.funs.length := by
  rw [imgB_eq] at h
  simp only [tailB, Bool.and_eq_true, decide_eq_true_eq] at h
  refine ⟨h.1, h.2.1.1.1, h.2.1.1.2, fun x hx => ?_⟩
  have := List.all_eq_true.1 h.2.2 x hx
  simp only [rangeB, Bool.and_eq_true, decide_eq_true_eq] at this
  exact ⟨x.toNat, by omega, by omega⟩
theorem walk8 (m : Img) (hk : m.funs.length ≤ 1048576) (hm : m.mains.length ≤ 1048576) (hs : sizeN m.funs ≤ 1048576) : PureV C 8 [.agg (imgV m)] (fltV (sureF m)) := by
  refine pure_of_run Tryd.func8 rfl (by kernel_rfl) (by kernel_rfl) (by simp) (fun _ => rfl) (fun _ => rfl) 6 1000 ?_
  simp +contextual (maxSteps := 2000000) (disch := ((try unfold LIM at *); omega)) only [↓bcase_true, ↓bcase_false, WA, simprocAttr, wrap_i64, imgV]
  refine CallThen.pure (walk23 m hk hm hs) 1000 ?_
  cases c1 : imgB m
  · have e : sureF m = (1, 0, 0) := by simp [sureF, c1]
    simp +contextual (maxSteps := 2000000) (disch := ((try unfold LIM at *); omega)) only [↓bcase_true, ↓bcase_false, WA, simprocAttr, wrap_i64, c1, e, fltV]
  have e : sureF m = faultE m := by simp [sureF, c1]
  obtain ⟨i1, i2, i3, i4⟩ := imgB_all c1
  simp +contextual (maxSteps := 2000000) (disch := ((try unfold LIM at *); omega)) only [↓bcase_true, ↓bcase_false, WA, simprocAttr, wrap_i64, c1, e, List.length_map]
  intro hl1
  refine LoopThen.own (ι := Nat) (fun i => i ≤ m.mains.length ∧ mainE m.funs (m.mains.drop i) = mainE m.funs m.mains)
    (fun i => [(1, .ptr 0 0 0), (2, .ptr 1 0 0), (13, .f 1 (m.mains.map iV)), (14, .s (.int .i64 m.mains.length)), (15, .s (.int .i64 i))])
    (fun _ => [⟨[[.f 6 (m.funs.map fnV), .f 1 (m.mains.map iV)]], 2, 1, true⟩, ⟨[[.s (.int .i64 0), .s (.int .i64 0), .s (.int .i64 0)]], 3, 1, true⟩]) (fun i => m.mains.length - i) 1000 1000
    ⟨0, ⟨Nat.zero_le _, by simp⟩, [0, 1], by simp, by simp +contextual (maxSteps := 2000000) (disch := ((try unfold LIM at *); omega)) only [↓bcase_true, ↓bcase_false, WA, simprocAttr, wrap_i64], by simp +contextual (maxSteps := 2000000) (disch := ((try unfold LIM at *); omega)) only [↓bcase_true, ↓bcase_false, WA, simprocAttr, wrap_i64, nm_at]⟩ ?_
  rintro i ⟨p1, p2⟩
  by_cases c2 : (i : Int) < m.mains.length
  · obtain ⟨x, hx⟩ := get_lt c2
    have pi : (0 : Int) ≤ i := by omega
    rw [drop_cons hx] at p2
    obtain ⟨k, rfl, hk2⟩ := i4 x (List.mem_of_getElem? hx)
    obtain ⟨g, hg⟩ : ∃ g, m.funs[k]? = some g := ⟨m.funs[k], List.getElem?_eq_getElem hk2⟩
    have hk3 : (k : Int) < m.funs.length := by omega
    have pk : (0 : Int) ≤ k := by omega
    have hgv : (m.funs.map fnV)[k]? = some (fnV g) := by rw [List.getElem?_map, hg]; rfl
    simp only [mainE, Int.toNat_natCast, hg, Option.map_some, Option.getD_some] at p2
    by_cases c3 : 0 < g.args.length
    · have c3' : (0 : Int) < g.args.length := by omega
      rw [if_pos c3] at p2
      have e2 : faultE m = (2, (k : Int), 0) := by simp [faultE, ← p2]
      simp +contextual (maxSteps := 2000000) (disch := ((try unfold LIM at *); omega)) only [↓bcase_true, ↓bcase_false, WA, simprocAttr, wrap_i64, List.length_map, c2, hx, pi, hk3, pk, hgv, fnV, c3', iV, e2, fltV]
    · have c3' : ¬ (0 : Int) < g.args.length := by omega
      rw [if_neg c3] at p2
      simp +contextual (maxSteps := 2000000) (disch := ((try unfold LIM at *); omega)) only [↓bcase_true, ↓bcase_false, WA, simprocAttr, wrap_i64, List.length_map, c2, hx, pi, hk3, pk, hgv, fnV, c3', iV, cast_succ]
      intro _
      exact ⟨i + 1, ⟨⟨by omega, p2⟩, by omega⟩, [0, 1], by simp, ⟨.inl ⟨rfl, rfl⟩, .inl ⟨rfl, rfl⟩, trivial⟩, rfl, rfl, rfl⟩
  · have e3 : i = m.mains.length := by omega
    subst e3
    rw [List.drop_length] at p2
    have e2 : faultE m = firstE m.funs m.funs 0 := by simp [faultE, ← p2, mainE]
    simp +contextual (maxSteps := 2000000) (disch := ((try unfold LIM at *); omega)) only [↓bcase_true, ↓bcase_false, WA, simprocAttr, wrap_i64, c2, List.length_map, e2]
    intro hl2
    refine LoopThen.own (ι := Nat) (fun i => i ≤ m.funs.length ∧ firstE m.funs (m.funs.drop i) i = firstE m.funs m.funs 0)
      (fun i => [(1, .ptr 0 0 0), (2, .ptr 1 0 0), (32, .s (.int .i64 m.funs.length)), (33, .s (.int .i64 i))])
      (fun _ => [⟨[[.f 6 (m.funs.map fnV), .f 1 (m.mains.map iV)]], 2, 1, true⟩, ⟨[[.s (.int .i64 0), .s (.int .i64 0), .s (.int .i64 0)]], 3, 1, true⟩]) (fun i => m.funs.length - i) 1000 1000
      ⟨0, ⟨Nat.zero_le _, by simp⟩, [0, 1], by simp, by simp +contextual (maxSteps := 2000000) (disch := ((try unfold LIM at *); omega)) only [↓bcase_true, ↓bcase_false, WA, simprocAttr, wrap_i64], by simp +contextual (maxSteps := 2000000) (disch := ((try unfold LIM at *); omega)) only [↓bcase_true, ↓bcase_false, WA, simprocAttr, wrap_i64, nm_at]⟩ ?_
    rintro i ⟨r1, r2⟩
    by_cases c4 : (i : Int) < m.funs.length
    · obtain ⟨f, hf⟩ := get_lt c4
      rw [drop_cons hf] at r2
      simp only [firstE] at r2
      simp +contextual (maxSteps := 2000000) (disch := ((try unfold LIM at *); omega)) only [↓bcase_true, ↓bcase_false, WA, simprocAttr, wrap_i64, c4]
      refine CallThen.of 1000 (CallsV.frameL (calls24 m i f hf i1 i2) [] _ (by simp) trivial rfl) fun res h' ⟨r, h1, q1, q2, q3, q4⟩ => ?_
      subst q3; subst q4
      cases e : sureE m.funs f with
      | ok ats =>
        rw [e] at r2
        simp only [surelyR, e] at q1
        obtain ⟨rfl, rfl⟩ := q1
        simp +contextual (maxSteps := 2000000) (disch := ((try unfold LIM at *); omega)) only [↓bcase_true, ↓bcase_false, WA, simprocAttr, wrap_i64, rnRes, rnB_ats, cast_succ, eqS28, fk28, kk28]
        exact ⟨i + 1, ⟨⟨by omega, r2⟩, by omega⟩, [0, 1], by simp, ⟨.inl ⟨rfl, rfl⟩, .inl ⟨rfl, rfl⟩, trivial⟩, rfl, rfl, rfl⟩
      | error c =>
        rw [e] at r2
        simp only [surelyR, e] at q1
        obtain ⟨rfl, rfl⟩ := q1
        have nz : decide (c.1 = 0) = false := decide_eq_false (sureE_nz e)
        simp only at r2
        simp +contextual (maxSteps := 2000000) (disch := ((try unfold LIM at *); omega)) only [↓bcase_true, ↓bcase_false, WA, simprocAttr, wrap_i64, rnRes, eqS28, fk28, kk28, nz, Bool.false_and, Bool.not_false, ← r2, fltV]
    · have e3 : i = m.funs.length := by omega
      subst e3
      rw [List.drop_length] at r2
      simp only [firstE] at r2
      simp +contextual (maxSteps := 2000000) (disch := ((try unfold LIM at *); omega)) only [↓bcase_true, ↓bcase_false, WA, simprocAttr, wrap_i64, c4, ← r2, fltV]
end Go.Proofs.YtijefmjfdhfjmaaDoor
/- part S13 -/
set_option linter.unusedVariables false
set_option linter.unusedSimpArgs false
set_option maxRecDepth 100000
namespace Go.Proofs.YtijefmjfdhfjmaaDoor
open Go Go.W Go.RowKit
theorem kept_len : kept.length = 19 := rfl
theorem walk51 (s : ByteArray) : PureV C 51 [.s (.string s)] (.s (.bool (kept.any fun w => decide (w = s)))) := by
  refine pure_of_run Tryd.func51 rfl (by kernel_rfl) (by kernel_rfl) (by simp) (fun _ => rfl) (fun _ => rfl) 6 1000 ?_
  simp +contextual (maxSteps := 2000000) (disch := ((try unfold LIM at *); omega)) only [↓bcase_true, ↓bcase_false, WA, simprocAttr, wrap_i64, List.replicate]
  refine LoopThen.own (ι := Nat) (fun i => i ≤ 19 ∧ ((kept.drop i).any fun w => decide (w = s)) = kept.any fun w => decide (w = s))
    (fun i => [(0, .s (.string s)), (3, .sl 0 0 19 19), (4, .s (.int .i64 i))]) (fun _ => [⟨kept.map sV, 1, 19, true⟩]) (fun i => 19 - i) 1000 1000
    ⟨0, ⟨Nat.zero_le _, rfl⟩, [0], by simp, by simp +contextual (maxSteps := 2000000) (disch := ((try unfold LIM at *); omega)) only [↓bcase_true, ↓bcase_false, WA, simprocAttr, wrap_i64, kept, sV], by simp +contextual (maxSteps := 2000000) (disch := ((try unfold LIM at *); omega)) only [↓bcase_true, ↓bcase_false, WA, simprocAttr, wrap_i64, nm_at]⟩ ?_
  rintro i ⟨p1, p4⟩
  by_cases c2 : (i : Int) < 19
  · obtain ⟨f, hf⟩ := get_lt (l := kept) (i := i) (by rw [kept_len]; omega)
    have pi : (0 : Int) ≤ i := by omega
    have c2' : (i : Int) < (kept.length : Int) := by rw [kept_len]; omega
    rw [drop_cons hf] at p4
    simp only [List.any_cons] at p4
    have hfv : (kept.map sV)[i]? = some (sV f) := by rw [List.getElem?_map, hf]; rfl
    by_cases c3 : f = s
    · have e : (kept.any fun w => decide (w = s)) = true := by rw [← p4]; simp [c3]
      simp +contextual (maxSteps := 2000000) (disch := ((try unfold LIM at *); omega)) only [↓bcase_true, ↓bcase_false, WA, simprocAttr, wrap_i64, List.length_map, c2, c2', hfv, pi, sV, c3, e]
    · have c3' : ¬ s = f := fun e => c3 e.symm
      rw [decide_eq_false c3, Bool.false_or] at p4
      simp +contextual (maxSteps := 2000000) (disch := ((try unfold LIM at *); omega)) only [↓bcase_true, ↓bcase_false, WA, simprocAttr, wrap_i64, List.length_map, c2, c2', hfv, pi, sV, c3, c3', cast_succ]
      exact ⟨i + 1, ⟨⟨by omega, p4⟩, by omega⟩, [0], by simp, ⟨.inl ⟨nrs_map (fun _ => rfl) _, rfl⟩, trivial⟩, rfl, rfl⟩
  · have e : i = 19 := by omega
    subst e
    rw [List.drop_of_length_le (by rw [kept_len]; omega)] at p4
    simp +contextual (maxSteps := 2000000) (disch := ((try unfold LIM at *); omega)) only [↓bcase_true, ↓bcase_false, WA, simprocAttr, wrap_i64, c2, ← p4, List.any_nil]
theorem walk32 (s : ByteArray) : PureV C 32 [.s (.string s)] (.s (.bool (nameB s))) := by
  refine pure_of_run Tryd.func32 rfl (by kernel_rfl) (by kernel_rfl) (by simp) (fun _ => rfl) (fun _ => rfl) 6 1000 ?_
  have case_l : ∀ {Q : QT}, True := fun {Q} => trivial
  by_cases c1 : (s.size : Int) < 1
  · have e : nameB s = false := by
      have : ¬ 1 ≤ s.size := by omega
      simp [nameB, this]
    simp +contextual (maxSteps := 2000000) (disch := ((try unfold LIM at *); omega)) only [↓bcase_true, ↓bcase_false, WA, simprocAttr, wrap_i64, c1, e]
  by_cases c2 : (8 : Int) < s.size
  · have e : nameB s = false := by
      have : ¬ s.size ≤ 8 := by omega
      simp [nameB, this]
    simp +contextual (maxSteps := 2000000) (disch := ((try unfold LIM at *); omega)) only [↓bcase_true, ↓bcase_false, WA, simprocAttr, wrap_i64, c1, c2, e]
  simp +contextual (maxSteps := 2000000) (disch := ((try unfold LIM at *); omega)) only [↓bcase_true, ↓bcase_false, WA, simprocAttr, wrap_i64, c1, c2]
  intro hl
  refine CallThen.pure (walk51 s) 1000 ?_
  cases c3 : kept.any fun w => decide (w = s)
  · have e : nameB s = s.data.toList.all low := by
      have h1 : 1 ≤ s.size := by omega
      have h2 : s.size ≤ 8 := by omega
      simp [nameB, h1, h2, c3]
    simp +contextual (maxSteps := 2000000) (disch := ((try unfold LIM at *); omega)) only [↓bcase_true, ↓bcase_false, WA, simprocAttr, wrap_i64, c3, e]
    refine LoopThen.pure (ι := Nat) (fun i => i ≤ s.size ∧ (s.data.toList.drop i).all low = s.data.toList.all low) (fun i => keepL [(0, .s (.string s)), (3, .s (.int .i64 i))]) (fun i => s.size - i)
      6 [0, 3] 1000 1000 ⟨0, ⟨by omega, rfl⟩, by simp +contextual (maxSteps := 2000000) (disch := ((try unfold LIM at *); omega)) only [↓bcase_true, ↓bcase_false, WA, simprocAttr, wrap_i64]⟩ ?_
    rintro i ⟨p1, p4⟩
    by_cases c2 : (i : Int) < s.size
    · have hlt : i < s.size := by omega
      have hb : s[i]? = some s[i] := getElem?_pos s i hlt
      have hb' : s.data.toList[i]? = some s[i] := by
        simp only [ByteArray.size] at hlt
        rw [Array.getElem?_toList, Array.getElem?_eq_getElem hlt]; rfl
      have pi : (0 : Int) ≤ i := by omega
      rw [drop_cons hb'] at p4
      simp only [List.all_cons] at p4
      generalize s[i] = c at *
      cases c3 : low c
      · rw [c3, Bool.false_and] at p4
        simp only [low, Bool.and_eq_false_iff, decide_eq_false_iff_not] at c3
        by_cases c4 : (c.toNat : Int) < 97
        · simp +contextual (maxSteps := 2000000) (disch := ((try unfold LIM at *); omega)) only [↓bcase_true, ↓bcase_false, WA, simprocAttr, wrap_i64, c2, hb, pi, c4, ← p4]
        · have c5 : (122 : Int) < c.toNat := by omega
          simp +contextual (maxSteps := 2000000) (disch := ((try unfold LIM at *); omega)) only [↓bcase_true, ↓bcase_false, WA, simprocAttr, wrap_i64, c2, hb, pi, c4, c5, ← p4]
      · rw [c3, Bool.true_and] at p4
        obtain ⟨c4, c5⟩ := low_true c3
        simp +contextual (maxSteps := 2000000) (disch := ((try unfold LIM at *); omega)) only [↓bcase_true, ↓bcase_false, WA, simprocAttr, wrap_i64, c2, hb, pi, c4, c5, cast_succ]
        exact fun _ => ⟨i + 1, ⟨⟨by omega, p4⟩, by omega⟩, rfl⟩
    · have e : i = s.size := by omega
      subst e
      have : s.data.toList.drop s.size = [] := List.drop_eq_nil_of_le (show s.data.toList.length ≤ s.size from Nat.le_of_eq Array.length_toList)
      rw [this] at p4
      simp only [List.all_nil] at p4
      simp +contextual (maxSteps := 2000000) (disch := ((try unfold LIM at *); omega)) only [↓bcase_true, ↓bcase_false, WA, simprocAttr, wrap_i64, c2, ← p4]
  · have e : nameB s = false := by simp [nameB, c3]
    simp +contextual (maxSteps := 2000000) (disch := ((try unfold LIM at *); omega)) only [↓bcase_true, ↓bcase_false, WA, simprocAttr, wrap_i64, c3, e]
theorem walk52 (s : ByteArray) : PureV C 52 [.s (.string s)] (.s (.bool (nameB s || decide (s = mainS)))) := by
  refine pure_of_run Tryd.func52 rfl (by kernel_rfl) (by kernel_rfl) (by simp) (fun _ => rfl) (fun _ => rfl) 6 1000 ?_
  simp +contextual (maxSteps := 2000000) (disch := ((try unfold LIM at *); omega)) only [↓bcase_true, ↓bcase_false, WA, simprocAttr, wrap_i64]
  refine CallThen.pure (walk32 s) 1000 ?_
  by_cases c : s = mainS
  · subst c
    cases h : nameB mainS <;> simp +contextual (maxSteps := 2000000) (disch := ((try unfold LIM at *); omega)) only [↓bcase_true, ↓bcase_false, WA, simprocAttr, wrap_i64, h, mainS]
  · have c' : ¬ mainS = s := fun e => c e.symm
    cases h : nameB s
    · simp +contextual (maxSteps := 2000000) (disch := ((try unfold LIM at *); omega)) only [↓bcase_true, ↓bcase_false, WA, simprocAttr, wrap_i64, h, c, c', mainS]
      exact congrArg (fun b => V.s (Value.bool b)) (decide_eq_decide.2 Iff.rfl)
    · simp +contextual (maxSteps := 2000000) (disch := ((try unfold LIM at *); omega)) only [↓bcase_true, ↓bcase_false, WA, simprocAttr, wrap_i64, h, c, c', mainS]
def typeS (t : Int) : ByteArray := if t = 1 then ⟨#[105, 110, 116]⟩ else if t = 2 then ⟨#[98, 111, 111, 108]⟩ else if t = 3 then ⟨#[114, 111, 119]⟩ else ⟨#[]⟩
theorem walk53 (t : Int) : PureV C 53 [.s (.int .i64 t)] (.s (.string (typeS t))) := by
  refine pure_of_run Tryd.func53 rfl (by kernel_rfl) (by kernel_rfl) (by simp) (fun _ => rfl) (fun _ => rfl) 6 1000 ?_
  by_cases c1 : t = 1
  · simp +contextual (maxSteps := 2000000) (disch := ((try unfold LIM at *); omega)) only [↓bcase_true, ↓bcase_false, WA, simprocAttr, wrap_i64, c1, typeS, List.replicate]
  by_cases c2 : t = 2
  · simp +contextual (maxSteps := 2000000) (disch := ((try unfold LIM at *); omega)) only [↓bcase_true, ↓bcase_false, WA, simprocAttr, wrap_i64, c2, typeS, List.replicate]
  by_cases c3 : t = 3
  · simp +contextual (maxSteps := 2000000) (disch := ((try unfold LIM at *); omega)) only [↓bcase_true, ↓bcase_false, WA, simprocAttr, wrap_i64, c3, typeS, List.replicate]
  by_cases c4 : t < 1
  · simp +contextual (maxSteps := 2000000) (disch := ((try unfold LIM at *); omega)) only [↓bcase_true, ↓bcase_false, WA, simprocAttr, wrap_i64, c1, c2, c3, c4, typeS]
  · have c5 : 3 < t := by omega
    simp +contextual (maxSteps := 2000000) (disch := ((try unfold LIM at *); omega)) only [↓bcase_true, ↓bcase_false, WA, simprocAttr, wrap_i64, c1, c2, c3, c4, c5, typeS]
theorem typeS_nil (t : Int) : decide (typeS t = ⟨#[]⟩) = !typB t := by
  unfold typeS typB rangeB
  by_cases c1 : t = 1
  · subst c1; rfl
  by_cases c2 : t = 2
  · subst c2; rfl
  by_cases c3 : t = 3
  · subst c3; rfl
  rw [if_neg c1, if_neg c2, if_neg c3]
  have : (decide (1 ≤ t) && decide (t ≤ 3)) = false := by
    rw [Bool.and_eq_false_iff]; simp only [decide_eq_false_iff_not]; omega
  rw [this]; rfl
theorem walk54 (x : Ins) : PureV C 54 [.agg (insV x)] (.s (.bool (insB x))) := by
  refine pure_of_run Tryd.func54 rfl (by kernel_rfl) (by kernel_rfl) (by simp) (fun _ => rfl) (fun _ => rfl) 6 1000 ?_
  by_cases c1 : x.op = 1
  · by_cases d1 : x.a < 100000000000000000
    · by_cases d2 : -100000000000000000 < x.a
      · have e : insB x = true := by
          simp only [insB, rangeB, c1, if_true, Bool.and_eq_true, decide_eq_true_eq]; omega
        simp +contextual (maxSteps := 2000000) (disch := ((try unfold LIM at *); omega)) only [↓bcase_true, ↓bcase_false, WA, simprocAttr, wrap_i64, insV, c1, d1, d2, e]
      · have e : insB x = false := by
          simp only [insB, rangeB, c1, if_true, Bool.and_eq_false_iff, decide_eq_false_iff_not]; omega
        simp +contextual (maxSteps := 2000000) (disch := ((try unfold LIM at *); omega)) only [↓bcase_true, ↓bcase_false, WA, simprocAttr, wrap_i64, insV, c1, d1, d2, e]
    · have e : insB x = false := by
        simp only [insB, rangeB, c1, if_true, Bool.and_eq_false_iff, decide_eq_false_iff_not]; omega
      simp +contextual (maxSteps := 2000000) (disch := ((try unfold LIM at *); omega)) only [↓bcase_true, ↓bcase_false, WA, simprocAttr, wrap_i64, insV, c1, d1, e]
  by_cases c2 : x.op = 2
  · by_cases d1 : x.a = 0
    · have e : insB x = true := by simp [insB, c1, c2, d1, rangeB]
      simp +contextual (maxSteps := 2000000) (disch := ((try unfold LIM at *); omega)) only [↓bcase_true, ↓bcase_false, WA, simprocAttr, wrap_i64, insV, c2, d1, e]
    · by_cases d2 : x.a = 1
      · have e : insB x = true := by simp [insB, c1, c2, d2, rangeB]
        simp +contextual (maxSteps := 2000000) (disch := ((try unfold LIM at *); omega)) only [↓bcase_true, ↓bcase_false, WA, simprocAttr, wrap_i64, insV, c2, d1, d2, e]
      · have e : insB x = false := by
          simp only [insB, rangeB, c1, c2, if_true, if_false, Bool.and_eq_false_iff, decide_eq_false_iff_not]
          rw [if_neg (by omega)]
          simp only [Bool.and_eq_false_iff, decide_eq_false_iff_not]; omega
        simp +contextual (maxSteps := 2000000) (disch := ((try unfold LIM at *); omega)) only [↓bcase_true, ↓bcase_false, WA, simprocAttr, wrap_i64, insV, c2, d1, d2, e]
  by_cases c3 : x.op = 9
  · simp +contextual (maxSteps := 2000000) (disch := ((try unfold LIM at *); omega)) only [↓bcase_true, ↓bcase_false, WA, simprocAttr, wrap_i64, insV, c3, insB]
  have e : insB x = (decide (1 ≤ x.op) && decide (x.op ≤ 10) && decide (0 ≤ x.a) && decide (x.a ≤ 1000)) := by
    simp only [insB, if_neg c1, if_neg c2, if_neg c3, rangeB, Bool.and_assoc]
  by_cases d1 : 1 ≤ x.op <;> by_cases d2 : x.op ≤ 10 <;> by_cases d3 : 0 ≤ x.a <;> by_cases d4 : x.a ≤ 1000 <;> simp +contextual (maxSteps := 2000000) (disch := ((try unfold LIM at *); omega)) only [↓bcase_true, ↓bcase_false, WA, simprocAttr, wrap_i64, insV, c1, c2, c3, d1, d2, d3, d4, e]
def cfV (f : IFun) (p : V) : List V := [.s (.string f.name), p, .f 1 (f.args.map iV), .s (.int .i64 f.typ), .s (.int .i64 f.slots), .f 2 (f.code.map insV)]
def cfB (f : IFun) : Bool := headB f.name f.args f.typ f.slots && decide (f.code.length ≤ 460) && f.code.all insB
theorem walk33 (f : IFun) (p : V) (hp : p = .s (.bool false)) : PureV C 33 [.agg (cfV f p)] (.s (.bool (cfB f))) := by
  subst hp
  refine pure_of_run Tryd.func33 rfl (by kernel_rfl) (by kernel_rfl) (by simp) (fun _ => rfl) (fun _ => rfl) 6 1000 ?_
  simp +contextual (maxSteps := 2000000) (disch := ((try unfold LIM at *); omega)) only [↓bcase_true, ↓bcase_false, WA, simprocAttr, wrap_i64, cfV]
  refine CallThen.pure (walk52 f.name) 1000 ?_
  cases h1 : nameB f.name || decide (f.name = mainS)
  · have e : cfB f = false := by simp [cfB, headB, h1]
    simp +contextual (maxSteps := 2000000) (disch := ((try unfold LIM at *); omega)) only [↓bcase_true, ↓bcase_false, WA, simprocAttr, wrap_i64, h1, e]
  by_cases h2 : (4 : Int) < f.args.length
  · have e : cfB f = false := by
      have : ¬ f.args.length ≤ 4 := by omega
      simp [cfB, headB, this]
    simp +contextual (maxSteps := 2000000) (disch := ((try unfold LIM at *); omega)) only [↓bcase_true, ↓bcase_false, WA, simprocAttr, wrap_i64, h1, e, List.length_map, h2]
  have h2' : f.args.length ≤ 4 := by omega
  simp +contextual (maxSteps := 2000000) (disch := ((try unfold LIM at *); omega)) only [↓bcase_true, ↓bcase_false, WA, simprocAttr, wrap_i64, h1, List.length_map, h2]
  intro _
  refine CallThen.pure (walk53 f.typ) 1000 ?_
  have t1 := typeS_nil f.typ
  cases h3 : typB f.typ
  · have e : cfB f = false := by simp [cfB, headB, h3]
    rw [h3] at t1
    have t1 : typeS f.typ = ⟨#[]⟩ := by simpa using t1
    simp +contextual (maxSteps := 2000000) (disch := ((try unfold LIM at *); omega)) only [↓bcase_true, ↓bcase_false, WA, simprocAttr, wrap_i64, t1, e, List.length_map]
  rw [h3] at t1
  have t1 : ¬ typeS f.typ = ⟨#[]⟩ := by simpa using t1
  by_cases h4 : f.slots < 0
  · have e : cfB f = false := by
      have : rangeB f.slots 0 1000 = false := by simp only [rangeB, Bool.and_eq_false_iff, decide_eq_false_iff_not]; omega
      simp [cfB, headB, this]
    simp +contextual (maxSteps := 2000000) (disch := ((try unfold LIM at *); omega)) only [↓bcase_true, ↓bcase_false, WA, simprocAttr, wrap_i64, t1, e, List.length_map, h4]
  by_cases h5 : 1000 < f.slots
  · have e : cfB f = false := by
      have : rangeB f.slots 0 1000 = false := by simp only [rangeB, Bool.and_eq_false_iff, decide_eq_false_iff_not]; omega
      simp [cfB, headB, this]
    simp +contextual (maxSteps := 2000000) (disch := ((try unfold LIM at *); omega)) only [↓bcase_true, ↓bcase_false, WA, simprocAttr, wrap_i64, t1, e, List.length_map, h4, h5]
  have h45 : rangeB f.slots 0 1000 = true := by simp only [rangeB, Bool.and_eq_true, decide_eq_true_eq]; omega
  by_cases h6 : (460 : Int) < f.code.length
  · have e : cfB f = false := by
      have : ¬ f.code.length ≤ 460 := by omega
      simp [cfB, this]
    simp +contextual (maxSteps := 2000000) (disch := ((try unfold LIM at *); omega)) only [↓bcase_true, ↓bcase_false, WA, simprocAttr, wrap_i64, t1, e, List.length_map, h4, h5, h6]
  have h6' : f.code.length ≤ 460 := by omega
  have e : cfB f = (f.args.all typB && f.code.all insB) := by simp [cfB, headB, h1, h2', h3, h45, h6']
  simp +contextual (maxSteps := 2000000) (disch := ((try unfold LIM at *); omega)) only [↓bcase_true, ↓bcase_false, WA, simprocAttr, wrap_i64, t1, List.length_map, h4, h5, h6, e]
  intro _
  refine LoopThen.own (ι := Nat) (fun i => i ≤ f.args.length ∧ (f.args.drop i).all typB = f.args.all typB)
    (fun i => [(1, .ptr 0 0 0), (3, .s (.int .i64 i))]) (fun _ => [⟨[cfV f (.s (.bool false))], 6, 1, true⟩]) (fun i => f.args.length - i) 1000 1000
    ⟨0, ⟨Nat.zero_le _, rfl⟩, [0], by simp, by simp +contextual (maxSteps := 2000000) (disch := ((try unfold LIM at *); omega)) only [↓bcase_true, ↓bcase_false, WA, simprocAttr, wrap_i64, cfV], by simp +contextual (maxSteps := 2000000) (disch := ((try unfold LIM at *); omega)) only [↓bcase_true, ↓bcase_false, WA, simprocAttr, wrap_i64, nm_at]⟩ ?_
  rintro i ⟨p1, p4⟩
  by_cases c2 : (i : Int) < f.args.length
  · obtain ⟨x, hx⟩ := get_lt c2
    have pi : (0 : Int) ≤ i := by omega
    rw [drop_cons hx] at p4
    simp only [List.all_cons] at p4
    have hxv : (f.args.map iV)[i]? = some (iV x) := by rw [List.getElem?_map, hx]; rfl
    simp +contextual (maxSteps := 2000000) (disch := ((try unfold LIM at *); omega)) only [↓bcase_true, ↓bcase_false, WA, simprocAttr, wrap_i64, List.length_map, c2, hxv, pi, cfV, iV]
    intro _
    refine CallThen.pure (walk53 x) 1000 ?_
    have t2 := typeS_nil x
    cases h3 : typB x
    · rw [h3] at t2 p4
      have t2 : typeS x = ⟨#[]⟩ := by simpa using t2
      simp +contextual (maxSteps := 2000000) (disch := ((try unfold LIM at *); omega)) only [↓bcase_true, ↓bcase_false, WA, simprocAttr, wrap_i64, t2, ← p4, Bool.false_and]
    · rw [h3] at t2 p4
      have t2 : ¬ typeS x = ⟨#[]⟩ := by simpa using t2
      rw [Bool.true_and] at p4
      simp +contextual (maxSteps := 2000000) (disch := ((try unfold LIM at *); omega)) only [↓bcase_true, ↓bcase_false, WA, simprocAttr, wrap_i64, t2, cast_succ]
      exact ⟨i + 1, ⟨⟨by omega, p4⟩, by omega⟩, [0], by simp, ⟨.inl ⟨rfl, rfl⟩, trivial⟩, rfl, rfl⟩
  · have e : i = f.args.length := by omega
    subst e
    rw [List.drop_length] at p4
    simp +contextual (maxSteps := 2000000) (disch := ((try unfold LIM at *); omega)) only [↓bcase_true, ↓bcase_false, WA, simprocAttr, wrap_i64, c2, cfV, List.length_map, ← p4, List.all_nil, Bool.true_and]
    intro _
    refine LoopThen.own (ι := Nat) (fun i => i ≤ f.code.length ∧ (f.code.drop i).all insB = f.code.all insB)
      (fun i => [(1, .ptr 0 0 0), (4, .s (.int .i64 i))]) (fun _ => [⟨[cfV f (.s (.bool false))], 6, 1, true⟩]) (fun i => f.code.length - i) 1000 1000
      ⟨0, ⟨Nat.zero_le _, rfl⟩, [0], by simp, by simp +contextual (maxSteps := 2000000) (disch := ((try unfold LIM at *); omega)) only [↓bcase_true, ↓bcase_false, WA, simprocAttr, wrap_i64, cfV], by simp +contextual (maxSteps := 2000000) (disch := ((try unfold LIM at *); omega)) only [↓bcase_true, ↓bcase_false, WA, simprocAttr, wrap_i64, nm_at]⟩ ?_
    rintro i ⟨p1, p5⟩
    by_cases c3 : (i : Int) < f.code.length
    · obtain ⟨x, hx⟩ := get_lt c3
      have pi : (0 : Int) ≤ i := by omega
      rw [drop_cons hx] at p5
      simp only [List.all_cons] at p5
      have hxv : (f.code.map insV)[i]? = some (insV x) := by rw [List.getElem?_map, hx]; rfl
      simp +contextual (maxSteps := 2000000) (disch := ((try unfold LIM at *); omega)) only [↓bcase_true, ↓bcase_false, WA, simprocAttr, wrap_i64, List.length_map, c3, hxv, pi, cfV, insV]
      intro _
      refine CallThen.pure (walk54 x) 1000 ?_
      cases h3 : insB x
      · rw [h3] at p5
        simp +contextual (maxSteps := 2000000) (disch := ((try unfold LIM at *); omega)) only [↓bcase_true, ↓bcase_false, WA, simprocAttr, wrap_i64, h3, ← p5, Bool.false_and]
      · rw [h3, Bool.true_and] at p5
        simp +contextual (maxSteps := 2000000) (disch := ((try unfold LIM at *); omega)) only [↓bcase_true, ↓bcase_false, WA, simprocAttr, wrap_i64, h3, cast_succ]
        exact ⟨i + 1, ⟨⟨by omega, p5⟩, by omega⟩, [0], by simp, ⟨.inl ⟨rfl, rfl⟩, trivial⟩, rfl, rfl⟩
    · have e : i = f.code.length := by omega
      subst e
      rw [List.drop_length] at p5
      simp +contextual (maxSteps := 2000000) (disch := ((try unfold LIM at *); omega)) only [↓bcase_true, ↓bcase_false, WA, simprocAttr, wrap_i64, c3, cfV, List.length_map, ← p5, List.all_nil]
theorem cfB_ok (f : IFun) : okF f = (nameB f.mod && cfB f) := by simp only [okF, cfB, Bool.and_assoc]
end Go.Proofs.YtijefmjfdhfjmaaDoor
/- part S14 -/
set_option linter.unusedVariables false
set_option linter.unusedSimpArgs false
set_option maxRecDepth 100000
namespace Go.Proofs.YtijefmjfdhfjmaaDoor
open Go Go.W Go.RowKit
theorem walk19 (m : Img) (hk : m.funs.length ≤ 1048576) (hm : m.mains.length ≤ 1048576) (hs : sizeN m.funs ≤ 1048576) : PureV C 19 [.agg (imgV m)] (.s (.bool (imgB m))) := by
  refine pure_of_run Tryd.func19 rfl (by kernel_rfl) (by kernel_rfl) (by simp) (fun _ => rfl) (fun _ => rfl) 6 1000 ?_
  by_cases c1 : (72 : Int) < m.funs.length
  · have e : imgB m = false := by
      have : ¬ m.funs.length ≤ 72 := by omega
      rw [imgB_eq]; simp [tailB, this]
    simp +contextual (maxSteps := 2000000) (disch := ((try unfold LIM at *); omega)) only [↓bcase_true, ↓bcase_false, WA, simprocAttr, wrap_i64, imgV, List.length_map, c1, e]
  by_cases c2 : (8 : Int) < m.mains.length
  · have e : imgB m = false := by
      have : ¬ m.mains.length ≤ 8 := by omega
      rw [imgB_eq]; simp [tailB, this]
    simp +contextual (maxSteps := 2000000) (disch := ((try unfold LIM at *); omega)) only [↓bcase_true, ↓bcase_false, WA, simprocAttr, wrap_i64, imgV, List.length_map, c1, c2, e]
  have c1' : m.funs.length ≤ 72 := by omega
  have c2' : m.mains.length ≤ 8 := by omega
  simp +contextual (maxSteps := 2000000) (disch := ((try unfold LIM at *); omega)) only [↓bcase_true, ↓bcase_false, WA, simprocAttr, wrap_i64, imgV, List.length_map, c1, c2]
  intro _ _
  refine LoopThen.own (ι := Nat × Nat) (fun p => p.1 ≤ m.funs.length ∧ p.2 + sizeN (m.funs.drop p.1) = sizeN m.funs ∧ (m.funs.drop p.1).all okF = m.funs.all okF ∧ p.2 ≤ 3680)
    (fun p => [(1, .ptr 0 0 0), (3, .s (.int .i64 p.2)), (4, .s (.int .i64 p.1))])
    (fun _ => [⟨[[.f 6 (m.funs.map fnV), .f 1 (m.mains.map iV)]], 2, 1, true⟩]) (fun p => m.funs.length - p.1) 1000 1000
    ⟨(0, 0), ⟨Nat.zero_le _, by simp, rfl, Nat.zero_le _⟩, [0], by simp, by simp +contextual (maxSteps := 2000000) (disch := ((try unfold LIM at *); omega)) only [↓bcase_true, ↓bcase_false, WA, simprocAttr, wrap_i64], by simp +contextual (maxSteps := 2000000) (disch := ((try unfold LIM at *); omega)) only [↓bcase_true, ↓bcase_false, WA, simprocAttr, wrap_i64, nm_at]⟩ ?_
  rintro ⟨i, a⟩ ⟨p1, p2, p3, p6⟩
  by_cases c3 : (i : Int) < m.funs.length
  · obtain ⟨f, hf⟩ := get_lt c3
    have pi : (0 : Int) ≤ i := by omega
    rw [drop_cons hf] at p3
    simp only [List.all_cons] at p3
    rw [sizeN_drop hf] at p2
    simp only at p1 p2 p6
    have b1 : (a : Int) + f.code.length ≤ 1048576 := by omega
    have hfv : (m.funs.map fnV)[i]? = some (fnV f) := by rw [List.getElem?_map, hf]; rfl
    by_cases c4 : (3680 : Int) < (a : Int) + f.code.length
    · have e : imgB m = false := by
        have : ¬ sizeN m.funs ≤ 3680 := by omega
        rw [imgB_eq]; simp [tailB, this]
      simp +contextual (maxSteps := 2000000) (disch := ((try unfold LIM at *); omega)) only [↓bcase_true, ↓bcase_false, WA, simprocAttr, wrap_i64, List.length_map, c3, hfv, pi, fnV, c4, e]
    simp +contextual (maxSteps := 2000000) (disch := ((try unfold LIM at *); omega)) only [↓bcase_true, ↓bcase_false, WA, simprocAttr, wrap_i64, List.length_map, c3, hfv, pi, fnV, c4]
    intro _ _
    refine CallThen.pure (walk32 f.mod) 1000 ?_
    cases c5 : nameB f.mod
    · have e : imgB m = false := by
        rw [imgB_eq, ← p3]; simp only [okF, c5, Bool.false_and]
      simp +contextual (maxSteps := 2000000) (disch := ((try unfold LIM at *); omega)) only [↓bcase_true, ↓bcase_false, WA, simprocAttr, wrap_i64, c5, e]
    simp +contextual (maxSteps := 2000000) (disch := ((try unfold LIM at *); omega)) only [↓bcase_true, ↓bcase_false, WA, simprocAttr, wrap_i64, c5]
    refine CallThen.pure (walk33 f _ rfl) 1000 ?_
    cases c6 : cfB f
    · have e : imgB m = false := by
        rw [imgB_eq, ← p3]; simp only [cfB_ok, c6, Bool.and_false, Bool.false_and]
      simp +contextual (maxSteps := 2000000) (disch := ((try unfold LIM at *); omega)) only [↓bcase_true, ↓bcase_false, WA, simprocAttr, wrap_i64, c6, e]
    · have eo : okF f = true := by rw [cfB_ok, c5, c6]; rfl
      rw [eo, Bool.true_and] at p3
      simp +contextual (maxSteps := 2000000) (disch := ((try unfold LIM at *); omega)) only [↓bcase_true, ↓bcase_false, WA, simprocAttr, wrap_i64, c6, cast_succ]
      exact ⟨(i + 1, a + f.code.length), ⟨⟨by simp only; omega, by simp only; omega, p3, by simp only; omega⟩, by simp only; omega⟩, [0], by simp, ⟨.inl ⟨rfl, rfl⟩, trivial⟩, by simp +contextual (maxSteps := 2000000) (disch := ((try unfold LIM at *); omega)) only [↓bcase_true, ↓bcase_false, WA, simprocAttr, wrap_i64, nm_at, Int.natCast_add]⟩
  · have e : i = m.funs.length := by omega
    subst e
    rw [List.drop_length] at p3
    simp only [List.drop_length, sizeN] at p2
    have s1 : sizeN m.funs ≤ 3680 := by omega
    have e : imgB m = m.mains.all fun n => rangeB n 0 ((m.funs.length : Int) - 1) := by
      rw [imgB_eq, ← p3]; simp [tailB, s1, c1', c2']
    simp +contextual (maxSteps := 2000000) (disch := ((try unfold LIM at *); omega)) only [↓bcase_true, ↓bcase_false, WA, simprocAttr, wrap_i64, c3, List.length_map, e]
    intro _
    refine LoopThen.own (ι := Nat) (fun i => i ≤ m.mains.length ∧ ((m.mains.drop i).all fun n => rangeB n 0 ((m.funs.length : Int) - 1)) = m.mains.all fun n => rangeB n 0 ((m.funs.length : Int) - 1))
      (fun i => [(1, .ptr 0 0 0), (6, .s (.int .i64 i))]) (fun _ => [⟨[[.f 6 (m.funs.map fnV), .f 1 (m.mains.map iV)]], 2, 1, true⟩]) (fun i => m.mains.length - i) 1000 1000
      ⟨0, ⟨Nat.zero_le _, rfl⟩, [0], by simp, by simp +contextual (maxSteps := 2000000) (disch := ((try unfold LIM at *); omega)) only [↓bcase_true, ↓bcase_false, WA, simprocAttr, wrap_i64], by simp +contextual (maxSteps := 2000000) (disch := ((try unfold LIM at *); omega)) only [↓bcase_true, ↓bcase_false, WA, simprocAttr, wrap_i64, nm_at]⟩ ?_
    rintro i ⟨q1, q2⟩
    by_cases c4 : (i : Int) < m.mains.length
    · obtain ⟨x, hx⟩ := get_lt c4
      have pi : (0 : Int) ≤ i := by omega
      rw [drop_cons hx] at q2
      simp only [List.all_cons] at q2
      have hxv : (m.mains.map iV)[i]? = some (iV x) := by rw [List.getElem?_map, hx]; rfl
      simp +contextual (maxSteps := 2000000) (disch := ((try unfold LIM at *); omega)) only [↓bcase_true, ↓bcase_false, WA, simprocAttr, wrap_i64, List.length_map, c4, hxv, pi]
      refine fun _ => DrawThen.of 1000 [] (.old 0 (.old 1 (.old 2 (.old 3 (.old 4 (.old 5 (.old 6 (.old 7 (.old 8 (.old 9 (.old 10 (.old 11 (.old 12 (.old 13 (.old 14 (.old 15 (.old 16 .done))))))))))))))))) (panFree_loopO (panFree_pure _ _ _)) (by kernel_rfl) (by kernel_rfl) (by kernel_rfl) ?_
      by_cases d1 : x < 0
      · have er : rangeB x 0 ((m.funs.length : Int) - 1) = false := by simp only [rangeB, Bool.and_eq_false_iff, decide_eq_false_iff_not]; omega
        rw [er] at q2
        simp +contextual (maxSteps := 2000000) (disch := ((try unfold LIM at *); omega)) only [↓bcase_true, ↓bcase_false, WA, simprocAttr, wrap_i64, List.length_map, c4, hxv, pi, iV, d1, ← q2, Bool.false_and]
      by_cases d2 : (m.funs.length : Int) ≤ x
      · have er : rangeB x 0 ((m.funs.length : Int) - 1) = false := by simp only [rangeB, Bool.and_eq_false_iff, decide_eq_false_iff_not]; omega
        rw [er] at q2
        simp +contextual (maxSteps := 2000000) (disch := ((try unfold LIM at *); omega)) only [↓bcase_true, ↓bcase_false, WA, simprocAttr, wrap_i64, List.length_map, c4, hxv, pi, iV, d1, d2, ← q2, Bool.false_and]
      · have er : rangeB x 0 ((m.funs.length : Int) - 1) = true := by simp only [rangeB, Bool.and_eq_true, decide_eq_true_eq]; omega
        rw [er, Bool.true_and] at q2
        simp +contextual (maxSteps := 2000000) (disch := ((try unfold LIM at *); omega)) only [↓bcase_true, ↓bcase_false, WA, simprocAttr, wrap_i64, List.length_map, c4, hxv, pi, iV, d1, d2, cast_succ]
        exact fun _ => ⟨i + 1, ⟨⟨by omega, q2⟩, by omega⟩, [0], by simp, ⟨.inl ⟨rfl, rfl⟩, trivial⟩, rfl, rfl⟩
    · have e : i = m.mains.length := by omega
      subst e
      rw [List.drop_length] at q2
      simp +contextual (maxSteps := 2000000) (disch := ((try unfold LIM at *); omega)) only [↓bcase_true, ↓bcase_false, WA, simprocAttr, wrap_i64, c4, List.length_map, ← q2, List.all_nil]
end Go.Proofs.YtijefmjfdhfjmaaDoor
/- part S15 -/
set_option linter.unusedVariables false
set_option linter.unusedSimpArgs false
set_option maxRecDepth 100000
namespace Go.Proofs.YtijefmjfdhfjmaaDoor
open Go Go.W Go.RowKit
/-! ### The document's verifier: the state of a function -/
def spB (m : Img) (f : IFun) (x : V) (code : Int) : Blk := ⟨[[.f 6 (m.funs.map fnV), .f 1 (m.mains.map iV), .s (.string f.mod), .s (.string f.name), .f 1 (f.args.map iV), .s (.int .i64 f.typ), .s (.int .i64 f.slots), .f 2 (f.code.map insV), x, .s (.int .i64 code)]], 10, 1, true⟩
def catC : Option At → List V
  | none => [.s (.bool false), .z, .z]
  | some a => [.s (.bool true), .l 1 (a.stack.map iV), .l 1 (a.slots.map iV)]
theorem catC_nr (a : Option At) : (catC a).all nr = true := by cases a <;> rfl
def catB (ats : Ats) : Blk := ⟨ats.map catC, 3, ats.length, true⟩
theorem cat_nr (ats : Ats) : nrs (catB ats).els = true := nrs_map catC_nr ats
theorem rnB_cat (ρ : Nat → Nat) (ats : Ats) : rnB ρ (catB ats) = catB ats := nrs_rn _ (cat_nr ats)
theorem rnB_sp (ρ : Nat → Nat) (m : Img) (f : IFun) (code : Int) (b o l c : Nat) : rnB ρ (spB m f (.sl b o l c) code) = spB m f (.sl (ρ b) o l c) code := rfl
theorem rnB_iV2 (ρ : Nat → Nat) (l : List Int) (c : Nat) : rnB ρ ⟨l.map iV, 1, c, true⟩ = ⟨l.map iV, 1, c, true⟩ := nrs_rn _ (nrs_map iV_nr l)
theorem rnB_dead (ρ : Nat → Nat) : rnB ρ Blk.dead = Blk.dead := rfl
def badC (code c : Int) : Int := if code = 0 then c else code
theorem edit34 (m : Img) (f : IFun) (x : V) (code c : Int) (rest : H) : CallsV C 34 [.ptr 0 0 0, .s (.int .i64 c)] (spB m f x code :: rest) fun res h' => res = .ret (.tup []) ∧ h' = spB m f x (badC code c) :: rest := by
  refine calls_of_run Tryd.func34 rfl (by kernel_rfl) (by kernel_rfl) (by simp) 1000 ?_
  by_cases h : code = 0
  · simp +contextual (maxSteps := 2000000) (disch := ((try unfold LIM at *); omega)) only [↓bcase_true, ↓bcase_false, WA, simprocAttr, wrap_i64, spB, h, badC]
    exact Up.refl ⟨rfl, rfl⟩
  · simp +contextual (maxSteps := 2000000) (disch := ((try unfold LIM at *); omega)) only [↓bcase_true, ↓bcase_false, WA, simprocAttr, wrap_i64, spB, h, badC]
    exact Up.refl ⟨rfl, rfl⟩
def wV (a : At) (c1 c2 : Nat) : V := .agg [.s (.bool true), .sl 1 0 a.stack.length c1, .sl 2 0 a.slots.length c2]
def wH (m : Img) (f : IFun) (ats : Ats) (code : Int) (a : At) (c1 c2 : Nat) : H := [spB m f (.sl 3 0 ats.length ats.length) code, ⟨a.stack.map iV, 1, c1, true⟩, ⟨a.slots.map iV, 1, c2, true⟩, catB ats]
def wV2 (a : At) (c1 c2 : Nat) : V := .agg [.s (.bool true), .sl 4 0 a.stack.length c1, .sl 5 0 a.slots.length c2]
def wH2 (m : Img) (f : IFun) (ats : Ats) (code : Int) (a : At) (c1 c2 : Nat) : H := [spB m f (.sl 3 0 ats.length ats.length) code, Blk.dead, Blk.dead, catB ats, ⟨a.stack.map iV, 1, c1, true⟩, ⟨a.slots.map iV, 1, c2, true⟩]
def turnR (m : Img) (f : IFun) (ats : Ats) (q : At × Int) (res : Res) (h' : H) : Prop := ∃ c1' c2', q.1.stack.length ≤ c1' ∧ q.1.slots.length ≤ c2' ∧ res = .ret (wV2 q.1 c1' c2') ∧ h' = wH2 m f ats q.2 q.1 c1' c2'
theorem turn_end {m : Img} {f : IFun} {ats : Ats} {q : At × Int} {r : V} {h : H} (c1 c2 i j : Nat) (sh : List (Nat × Nat)) (h1 : q.1.stack.length ≤ c1) (h2 : q.1.slots.length ≤ c2) (hi : [0, 3, i, j].Nodup)
    (e0 : (shrinks h sh)[0]? = some (spB m f (.sl 3 0 ats.length ats.length) q.2)) (e3 : (shrinks h sh)[3]? = some (catB ats)) (e4 : (shrinks h sh)[i]? = some ⟨q.1.stack.map iV, 1, c1, true⟩) (e5 : (shrinks h sh)[j]? = some ⟨q.1.slots.map iV, 1, c2, true⟩)
    (er : r = .agg [.s (.bool true), .sl i 0 q.1.stack.length c1, .sl j 0 q.1.slots.length c2]) : Up 4 (turnR m f ats q) (.ret r) h := by
  subst er
  refine Up.gcM (wV2 q.1 c1 c2) sh [] [0, 1, 2, 3, i, j] (wH2 m f ats q.2 q.1 c1 c2) hi rfl ⟨.inr (.inr e0), .inl rfl, .inl rfl, .inr (.inl ⟨cat_nr _, e3⟩), .inr (.inl ⟨nrs_map iV_nr _, e4⟩), .inr (.inl ⟨nrs_map iV_nr _, e5⟩), trivial⟩ rfl ⟨c1, c2, h1, h2, rfl, rfl⟩
/-- g turns what is known of an instruction. -/
def TurnV (D : Cx) (g : Nat) (ex : List V) (m : Img) (f : IFun) (ats : Ats) (a : At) (code : Int) (q : At × Int) : Prop := ∀ c1 c2, a.stack.length ≤ c1 → a.slots.length ≤ c2 →
  CallsV D g (.ptr 0 0 0 :: wV a c1 c2 :: ex) (wH m f ats code a c1 c2) (turnR m f ats q)
theorem wH2_rn (ρ : Nat → Nat) (m : Img) (f : IFun) (ats : Ats) (code : Int) (a : At) (c1 c2 : Nat) : (wH2 m f ats code a c1 c2).map (rnB ρ) = [spB m f (.sl (ρ 3) 0 ats.length ats.length) code, Blk.dead, Blk.dead, catB ats, ⟨a.stack.map iV, 1, c1, true⟩, ⟨a.slots.map iV, 1, c2, true⟩] := by
  simp only [wH2, List.map_cons, List.map_nil, rnB_sp, rnB_dead, rnB_cat, rnB_iV2]
section
variable {D : Cx} {N n0 : Nat} {Q : QT} {k : List It} {τ : Tau} {h : H} {d : Option Nat}
theorem CallThen.turn {g : Nat} {ex : List V} {m0 : Img} {f : IFun} {ats : Ats} {a : At} {code : Int} {q : At × Int} (p : TurnV D g ex m0 f ats a code q) (c1 c2 : Nat) (hc1 : a.stack.length ≤ c1) (hc2 : a.slots.length ≤ c2) (bs : List Nat) {args' : List V} (hn : bs.Nodup)
    (hg : gcL (emb bs h.length) h bs (wH m0 f ats code a c1 c2)) (ha : args' = (.ptr 0 0 0 :: wV a c1 c2 :: ex).map (rnV (emb bs h.length))) (m : Nat)
    (hr : ∀ c1' c2', q.1.stack.length ≤ c1' → q.1.slots.length ≤ c2' → Run D N n0 m Q k (upo d (.agg [.s (.bool true), .sl (emb bs h.length 4) 0 q.1.stack.length c1', .sl (emb bs h.length 5) 0 q.1.slots.length c2']) τ) (setAll h bs [spB m0 f (.sl (emb bs h.length 3) 0 ats.length ats.length) q.2, Blk.dead, Blk.dead, catB ats, ⟨q.1.stack.map iV, 1, c1', true⟩, ⟨q.1.slots.map iV, 1, c2', true⟩])) : CallThen D N n0 Q g args' d k τ h := by
  refine CallThen.of m (CallsV.frameL (p c1 c2 hc1 hc2) bs h hn hg ha) fun res h' ⟨r, h1, ⟨c1', c2', q1, q2, q3, q4⟩, q5, q6, q7⟩ => ?_
  subst q3; subst q4; subst q6; subst q7
  rw [wH2_rn]
  exact hr c1' c2' q1 q2
theorem DCall.turn {h0 : H} {exc : List Nat} {ops : Array Oper} {fuel : Nat} {listed : Array Bool} {nw : List Nat} {g : Nat} {ex : List V} {m0 : Img} {f : IFun} {ats : Ats} {a : At} {code : Int} {q : At × Int} (p : TurnV D g ex m0 f ats a code q) (c1 c2 : Nat) (hc1 : a.stack.length ≤ c1) (hc2 : a.slots.length ≤ c2) (bs : List Nat) {args' : List V} (hF : H) (eF : hide h0 exc h = hF) (hn : bs.Nodup)
    (hg : gcL (emb bs hF.length) hF bs (wH m0 f ats code a c1 c2)) (ha : args' = (.ptr 0 0 0 :: wV a c1 c2 :: ex).map (rnV (emb bs hF.length))) (m : Nat) (td : TD) (hd : drawOk ops [] listed td = true)
    (hr : ∀ c1' c2', q.1.stack.length ≤ c1' → q.1.slots.length ≤ c2' → RunD D N n0 m Q k h0 exc ops fuel listed td (addN d nw) (upo d (.agg [.s (.bool true), .sl (emb bs hF.length 4) 0 q.1.stack.length c1', .sl (emb bs hF.length 5) 0 q.1.slots.length c2']) τ) (show_ h0 exc h (setAll hF bs [spB m0 f (.sl (emb bs hF.length 3) 0 ats.length ats.length) q.2, Blk.dead, Blk.dead, catB ats, ⟨q.1.stack.map iV, 1, c1', true⟩, ⟨q.1.slots.map iV, 1, c2', true⟩]))) : DCall D N n0 Q h0 exc ops fuel listed k g args' d nw τ h := by
  subst eF
  refine DCall.of m td hd (CallsV.frameL (p c1 c2 hc1 hc2) bs _ hn hg ha) fun res h' ⟨r, h1, ⟨c1', c2', q1, q2, q3, q4⟩, q5, q6, q7⟩ => ?_
  subst q3; subst q4; subst q6; subst q7
  rw [wH2_rn]
  exact hr c1' c2' q1 q2
theorem CallThen.bad {m0 : Img} {f : IFun} {x : V} {code c : Int} (B : Blk) (rest : H) {args' : List V} (eh : h = B :: rest) (eB : B = spB m0 f x code) (ha : args' = [.ptr 0 0 0, .s (.int .i64 c)]) (m : Nat)
    (hr : Run C N n0 m Q k (upo d (.tup []) τ) (spB m0 f x (badC code c) :: rest)) : CallThen C N n0 Q 34 args' d k τ h := by
  subst eh; subst eB; subst ha
  refine CallThen.of m (edit34 m0 f x code c rest) fun res h' ⟨q1, q2⟩ => ?_
  subst q1; subst q2; exact hr
end
def popT (a : At) (code k : Int) : At × Int := if a.stack.length = 0 then (a, badC code 4) else (⟨a.stack.dropLast, a.slots⟩, if 0 < k ∧ a.stack.getLast? ≠ some k then badC code 5 else code)
def pushT (a : At) (code k : Int) : At × Int := if 100 ≤ a.stack.length then (a, badC code 4) else (⟨a.stack ++ [k], a.slots⟩, code)
theorem edit59 (m : Img) (f : IFun) (ats : Ats) (a : At) (code k : Int) (hl : a.stack.length ≤ 1000) : TurnV C 59 [.s (.int .i64 k)] m f ats a code (popT a code k) := by
  intro c1 c2 hc1 hc2
  refine calls_of_run Tryd.func59 rfl (by kernel_rfl) (by kernel_rfl) (by simp) 1000 ?_
  obtain ⟨st, sl⟩ := a
  rcases List.eq_nil_or_concat st with rfl | ⟨l, v, rfl⟩
  · have e : popT ⟨[], sl⟩ code k = (⟨[], sl⟩, badC code 4) := rfl
    rw [e]
    simp +contextual (maxSteps := 2000000) (disch := ((try unfold LIM at *); omega)) only [↓bcase_true, ↓bcase_false, WA, simprocAttr, wrap_i64, wH, wV, List.length_map, List.length_nil, List.map_nil]
    refine CallThen.bad _ _ rfl rfl rfl 1000 ?_
    simp +contextual (maxSteps := 2000000) (disch := ((try unfold LIM at *); omega)) only [↓bcase_true, ↓bcase_false, WA, simprocAttr, wrap_i64]
    exact turn_end (q := (⟨[], sl⟩, badC code 4)) c1 c2 1 2 [] (Nat.zero_le _) hc2 (by decide) rfl rfl rfl rfl rfl
  · simp only [List.concat_eq_append] at hl hc1 ⊢
    have hl1 : l.length + 1 ≤ 1000 := by simpa using hl
    have hg1 : ((l ++ [v]).map iV)[l.length]? = some (iV v) := by simp
    have hc1' : l.length + 1 ≤ c1 := by simpa using hc1
    have b0 : (0 : Int) ≤ l.length := by omega
    have b1 : ¬ ((l.length + 1 : Nat) : Int) = 0 := by omega
    have b2 : (l.length : Int) < ((l.length + 1 : Nat) : Int) := by omega
    have b3 : ((l.length + 1 : Nat) : Int) - 1 = l.length := by omega
    have b4 : (l.length : Int) ≤ c1 := by omega
    have et : ((l ++ [v]).map iV).take l.length = l.map iV := by simp
    have e4 : ∀ (B0 : Blk) (rest : H), (shrinks (B0 :: ⟨(l ++ [v]).map iV, 1, c1, true⟩ :: rest) [(1, l.length)])[1]? = some ⟨l.map iV, 1, c1, true⟩ := fun B0 rest => by
      show some (⟨((l ++ [v]).map iV).take l.length, 1, c1, true⟩ : Blk) = _
      rw [et]
    by_cases k1 : 0 < k
    · by_cases k2 : v = k
      · subst k2
        have e : popT ⟨l ++ [v], sl⟩ code v = (⟨l, sl⟩, code) := by simp [popT]
        rw [e]
        simp +contextual (maxSteps := 2000000) (disch := ((try unfold LIM at *); omega)) only [↓bcase_true, ↓bcase_false, WA, simprocAttr, wrap_i64, wH, wV, List.length_map, List.length_append, List.length_cons, List.length_nil, hg1, iV, b0, b1, b2, b3, b4, k1]
        exact turn_end (q := (⟨l, sl⟩, code)) c1 c2 1 2 [(1, l.length)] (by simp only; omega) hc2 (by decide) rfl rfl (e4 _ _) rfl rfl
      · have e : popT ⟨l ++ [v], sl⟩ code k = (⟨l, sl⟩, badC code 5) := by simp [popT, k1, k2]
        rw [e]
        simp +contextual (maxSteps := 2000000) (disch := ((try unfold LIM at *); omega)) only [↓bcase_true, ↓bcase_false, WA, simprocAttr, wrap_i64, wH, wV, List.length_map, List.length_append, List.length_cons, List.length_nil, hg1, iV, b0, b1, b2, b3, b4, k1, k2]
        refine CallThen.bad _ _ rfl rfl rfl 1000 ?_
        simp +contextual (maxSteps := 2000000) (disch := ((try unfold LIM at *); omega)) only [↓bcase_true, ↓bcase_false, WA, simprocAttr, wrap_i64, wH, wV, List.length_map, List.length_append, List.length_cons, List.length_nil, hg1, iV, b0, b1, b2, b3, b4, k1, k2]
        exact turn_end (q := (⟨l, sl⟩, badC code 5)) c1 c2 1 2 [(1, l.length)] (by simp only; omega) hc2 (by decide) rfl rfl (e4 _ _) rfl rfl
    · have e : popT ⟨l ++ [v], sl⟩ code k = (⟨l, sl⟩, code) := by simp [popT, k1]
      rw [e]
      simp +contextual (maxSteps := 2000000) (disch := ((try unfold LIM at *); omega)) only [↓bcase_true, ↓bcase_false, WA, simprocAttr, wrap_i64, wH, wV, List.length_map, List.length_append, List.length_cons, List.length_nil, hg1, iV, b0, b1, b2, b3, b4, k1]
      exact turn_end (q := (⟨l, sl⟩, code)) c1 c2 1 2 [(1, l.length)] (by simp only; omega) hc2 (by decide) rfl rfl (e4 _ _) rfl rfl
theorem edit75 (m : Img) (f : IFun) (ats : Ats) (a : At) (code k : Int) (hl : a.stack.length ≤ 1000) : TurnV C 75 [.s (.int .i64 k)] m f ats a code (pushT a code k) := by
  intro c1 c2 hc1 hc2
  refine calls_of_run Tryd.func75 rfl (by kernel_rfl) (by kernel_rfl) (by simp) 1000 ?_
  by_cases c : (100 : Int) ≤ a.stack.length
  · have e : pushT a code k = (a, badC code 4) := by
      have : 100 ≤ a.stack.length := by omega
      simp [pushT, this]
    rw [e]
    simp +contextual (maxSteps := 2000000) (disch := ((try unfold LIM at *); omega)) only [↓bcase_true, ↓bcase_false, WA, simprocAttr, wrap_i64, wH, wV, List.length_map, c]
    refine CallThen.bad _ _ rfl rfl rfl 1000 ?_
    simp +contextual (maxSteps := 2000000) (disch := ((try unfold LIM at *); omega)) only [↓bcase_true, ↓bcase_false, WA, simprocAttr, wrap_i64]
    exact turn_end (q := (a, badC code 4)) c1 c2 1 2 [] hc1 hc2 (by decide) rfl rfl rfl rfl rfl
  · have e : pushT a code k = (⟨a.stack ++ [k], a.slots⟩, code) := by
      have : ¬ 100 ≤ a.stack.length := by omega
      simp [pushT, this]
    rw [e]
    simp +contextual (maxSteps := 2000000) (disch := ((try unfold LIM at *); omega)) only [↓bcase_true, ↓bcase_false, WA, simprocAttr, wrap_i64, wH, wV, List.length_map, c]
    refine ⟨⟨by omega, by unfold LIM; omega⟩, fun cap' h1 _ => ?_⟩
    exact turn_end (q := (⟨a.stack ++ [k], a.slots⟩, code)) cap' c2 7 2 [] (by simpa using h1) hc2 (by decide) rfl rfl (by simp [iV, shrinks_nil]) rfl (by simp)
def loadT (a : At) (code v : Int) : At × Int := pushT a (if v = 0 then badC code 5 else code) v
theorem edit60 (m : Img) (f : IFun) (ats : Ats) (a : At) (code : Int) (s : Nat) (v : Int) (hl : a.stack.length ≤ 1000) (hs : a.slots[s]? = some v) (hs2 : a.slots.length ≤ 1000) : TurnV C 60 [.s (.int .i64 s)] m f ats a code (loadT a code v) := by
  intro c1 c2 hc1 hc2
  refine calls_of_run Tryd.func60 rfl (by kernel_rfl) (by kernel_rfl) (by simp) 1000 ?_
  have pi : (0 : Int) ≤ s := by omega
  have lt : (s : Int) < a.slots.length := by have := (List.getElem?_eq_some_iff.1 hs).1; omega
  have hsv : (a.slots.map iV)[s]? = some (iV v) := by rw [List.getElem?_map, hs]; rfl
  by_cases c : v = 0
  · subst c
    have e : loadT a code 0 = pushT a (badC code 5) 0 := rfl
    rw [e]
    simp +contextual (maxSteps := 2000000) (disch := ((try unfold LIM at *); omega)) only [↓bcase_true, ↓bcase_false, WA, simprocAttr, wrap_i64, wH, wV, List.length_map, pi, lt, hsv, iV]
    refine CallThen.bad _ _ rfl rfl rfl 1000 ?_
    simp +contextual (maxSteps := 2000000) (disch := ((try unfold LIM at *); omega)) only [↓bcase_true, ↓bcase_false, WA, simprocAttr, wrap_i64, List.length_map, pi, lt, hsv, iV]
    refine DrawThen.of 1000 [0, 1, 2, 3, 5] (.old 0 (.old 1 (.old 2 (.old 3 (.old 4 (.old 5 (.go 6 (.go 7 (.go 8 .done))))))))) (panFree_body _ _) (by kernel_rfl) (by kernel_rfl) (by kernel_rfl) ?_
    simp +contextual (maxSteps := 2000000) (disch := ((try unfold LIM at *); omega)) only [↓bcase_true, ↓bcase_false, WA, simprocAttr, wrap_i64, List.length_map, pi, lt, hsv, iV]
    refine DCall.turn (edit75 m f ats a (badC code 5) 0 hl) c1 c2 hc1 hc2 [0, 1, 2, 3] _ rfl (by simp) ⟨.inr rfl, .inl ⟨nrs_map iV_nr _, rfl⟩, .inl ⟨nrs_map iV_nr _, rfl⟩, .inl ⟨cat_nr _, rfl⟩, trivial⟩ rfl 1000 (.go 8 .done) (by kernel_rfl) ?_
    intro c1' c2' hc1' hc2'
    simp +contextual (maxSteps := 2000000) (disch := ((try unfold LIM at *); omega)) only [↓bcase_true, ↓bcase_false, WA, simprocAttr, wrap_i64]
    try simp +contextual (maxSteps := 2000000) (disch := ((try unfold LIM at *); omega)) only [↓bcase_true, ↓bcase_false, WA, simprocAttr, wrap_i64, List.length_map, pi, lt, hsv, iV]
    repeat' apply And.intro
    all_goals
      exact turn_end (q := pushT a (badC code 5) 0) c1' c2' 6 7 [] hc1' hc2' (by decide) rfl rfl rfl rfl rfl
  · have e : loadT a code v = pushT a code v := by simp [loadT, c]
    rw [e]
    simp +contextual (maxSteps := 2000000) (disch := ((try unfold LIM at *); omega)) only [↓bcase_true, ↓bcase_false, WA, simprocAttr, wrap_i64, wH, wV, List.length_map, pi, lt, hsv, iV, c]
    refine DrawThen.of 1000 [0, 1, 2, 3, 5] (.old 0 (.old 1 (.old 2 (.old 3 (.old 4 (.old 5 (.go 6 (.go 7 (.go 8 .done))))))))) (panFree_body _ _) (by kernel_rfl) (by kernel_rfl) (by kernel_rfl) ?_
    simp +contextual (maxSteps := 2000000) (disch := ((try unfold LIM at *); omega)) only [↓bcase_true, ↓bcase_false, WA, simprocAttr, wrap_i64, List.length_map, pi, lt, hsv, iV]
    refine DCall.turn (edit75 m f ats a (code) v hl) c1 c2 hc1 hc2 [0, 1, 2, 3] _ rfl (by simp) ⟨.inr rfl, .inl ⟨nrs_map iV_nr _, rfl⟩, .inl ⟨nrs_map iV_nr _, rfl⟩, .inl ⟨cat_nr _, rfl⟩, trivial⟩ rfl 1000 (.go 8 .done) (by kernel_rfl) ?_
    intro c1' c2' hc1' hc2'
    simp +contextual (maxSteps := 2000000) (disch := ((try unfold LIM at *); omega)) only [↓bcase_true, ↓bcase_false, WA, simprocAttr, wrap_i64]
    try simp +contextual (maxSteps := 2000000) (disch := ((try unfold LIM at *); omega)) only [↓bcase_true, ↓bcase_false, WA, simprocAttr, wrap_i64, List.length_map, pi, lt, hsv, iV]
    repeat' apply And.intro
    all_goals
      exact turn_end (q := pushT a (code) v) c1' c2' 6 7 [] hc1' hc2' (by decide) rfl rfl rfl rfl rfl
def keepT (a : At) (code : Int) (s : Nat) : At × Int := if a.stack.length = 0 then (a, badC code 4) else popT ⟨a.stack, a.slots.set s (a.stack.getLast?.getD 0)⟩ code 0
theorem edit61 (m : Img) (f : IFun) (ats : Ats) (a : At) (code : Int) (s : Nat) (hl : a.stack.length ≤ 1000) (hs : s < a.slots.length) (hs2 : a.slots.length ≤ 1000) : TurnV C 61 [.s (.int .i64 s)] m f ats a code (keepT a code s) := by
  intro c1 c2 hc1 hc2
  refine calls_of_run Tryd.func61 rfl (by kernel_rfl) (by kernel_rfl) (by simp) 1000 ?_
  obtain ⟨st, sl⟩ := a
  rcases List.eq_nil_or_concat st with rfl | ⟨l, v, rfl⟩
  · have e : keepT ⟨[], sl⟩ code s = (⟨[], sl⟩, badC code 4) := rfl
    rw [e]
    simp +contextual (maxSteps := 2000000) (disch := ((try unfold LIM at *); omega)) only [↓bcase_true, ↓bcase_false, WA, simprocAttr, wrap_i64, wH, wV, List.length_map, List.length_nil, List.map_nil]
    refine CallThen.bad _ _ rfl rfl rfl 1000 ?_
    simp +contextual (maxSteps := 2000000) (disch := ((try unfold LIM at *); omega)) only [↓bcase_true, ↓bcase_false, WA, simprocAttr, wrap_i64]
    exact turn_end (q := (⟨[], sl⟩, badC code 4)) c1 c2 1 2 [] (Nat.zero_le _) hc2 (by decide) rfl rfl rfl rfl rfl
  · simp only [List.concat_eq_append] at hl hc1 hs hs2 hc2 ⊢
    have hl1 : l.length + 1 ≤ 1000 := by simpa using hl
    have hg1 : ((l ++ [v]).map iV)[l.length]? = some (iV v) := by simp
    have hc1' : l.length + 1 ≤ c1 := by simpa using hc1
    have b0 : (0 : Int) ≤ l.length := by omega
    have b1 : ¬ ((l.length + 1 : Nat) : Int) = 0 := by omega
    have b2 : (l.length : Int) < ((l.length + 1 : Nat) : Int) := by omega
    have b3 : ((l.length + 1 : Nat) : Int) - 1 = l.length := by omega
    have p0 : (0 : Int) ≤ s := by omega
    have p1 : (s : Int) < sl.length := by omega
    obtain ⟨w, hw⟩ : ∃ w, sl[s]? = some w := ⟨sl[s], List.getElem?_eq_getElem hs⟩
    have hwv : (sl.map iV)[s]? = some (iV w) := by rw [List.getElem?_map, hw]; rfl
    have e : keepT ⟨l ++ [v], sl⟩ code s = popT ⟨l ++ [v], sl.set s v⟩ code 0 := by simp [keepT]
    have es : (sl.map iV).set s [V.s (.int .i64 v)] = (sl.set s v).map iV := by rw [List.map_set]; rfl
    rw [e]
    simp +contextual (maxSteps := 2000000) (disch := ((try unfold LIM at *); omega)) only [↓bcase_true, ↓bcase_false, WA, simprocAttr, wrap_i64, wH, wV, List.length_map, List.length_append, List.length_cons, List.length_nil, b1]
    refine DrawThen.of 1000 [2] (.old 0 (.old 1 (.old 2 (.old 3 (.old 4 (.old 5 (.old 6 (.old 7 (.old 8 (.old 9 (.go 10 .done))))))))))) (panFree_body _ _) (by kernel_rfl) (by kernel_rfl) (by kernel_rfl) ?_
    simp +contextual (maxSteps := 2000000) (disch := ((try unfold LIM at *); omega)) only [↓bcase_true, ↓bcase_false, WA, simprocAttr, wrap_i64, List.length_map, List.length_append, List.length_cons, List.length_nil, hg1, iV, b0, b1, b2, b3, p0, p1, hwv, es]
    refine CallThen.turn (edit59 m f ats ⟨l ++ [v], sl.set s v⟩ code 0 hl) c1 c2 hc1 (by simpa using hc2) [0, 1, 2, 3] (by simp) ⟨.inr rfl, .inl ⟨nrs_map iV_nr _, rfl⟩, .inl ⟨nrs_map iV_nr _, rfl⟩, .inl ⟨cat_nr _, rfl⟩, trivial⟩ (by simp only [wV, List.length_append, List.length_set, List.length_cons, List.length_nil]; rfl) 1000 ?_
    intro c3 c4 hc3 hc4
    simp +contextual (maxSteps := 2000000) (disch := ((try unfold LIM at *); omega)) only [↓bcase_true, ↓bcase_false, WA, simprocAttr, wrap_i64]
    exact turn_end (q := popT ⟨l ++ [v], sl.set s v⟩ code 0) c3 c4 6 7 [] hc3 hc4 (by decide) rfl rfl rfl rfl rfl
end Go.Proofs.YtijefmjfdhfjmaaDoor
/- part S16 -/
set_option linter.unusedVariables false
set_option linter.unusedSimpArgs false
set_option maxRecDepth 100000
namespace Go.Proofs.YtijefmjfdhfjmaaDoor
open Go Go.W Go.RowKit
/-- The kinds in the order in which they are taken, until a fault. -/
def popsT (a : At) (code : Int) : List Int → At × Int
  | [] => (a, code)
  | k :: ks => if code = 0 then popsT (popT a code k).1 (popT a code k).2 ks else (a, code)
theorem popT_len {a : At} {code k : Int} : (popT a code k).1.stack.length ≤ a.stack.length ∧ (popT a code k).1.slots.length = a.slots.length := by
  unfold popT
  split
  · exact ⟨Nat.le_refl _, rfl⟩
  · simp
theorem popsT_nz {a : At} {code : Int} (h : code ≠ 0) : ∀ ks, popsT a code ks = (a, code)
  | [] => rfl
  | k :: ks => by simp [popsT, h]
theorem take_rev {l : List Int} {i : Nat} {x : Int} (hx : l[i]? = some x) : (l.take (i + 1)).reverse = x :: (l.take i).reverse := by
  rw [List.take_add_one, hx]; simp
theorem edit78 (m : Img) (f : IFun) (ats : Ats) (a : At) (code : Int) (ks : List Int) (hl : a.stack.length ≤ 1000) (hs : a.slots.length ≤ 1000) (hk : ks.length ≤ 1000) : TurnV C 78 [.f 1 (ks.map iV)] m f ats a code (popsT a code ks.reverse) := by
  intro c1 c2 hc1 hc2
  refine calls_of_run Tryd.func78 rfl (by kernel_rfl) (by kernel_rfl) (by simp) 1000 ?_
  simp +contextual (maxSteps := 2000000) (disch := ((try unfold LIM at *); omega)) only [↓bcase_true, ↓bcase_false, WA, simprocAttr, wrap_i64, wH, wV, List.length_map]
  intro _
  refine LoopThen.ownG 4 (ι := Nat × At × Int × Nat × Nat) (fun s => s.1 ≤ ks.length ∧ popsT s.2.1 s.2.2.1 (ks.take s.1).reverse = popsT a code ks.reverse ∧ s.2.1.stack.length ≤ 1000 ∧ s.2.1.slots.length ≤ 1000 ∧ s.2.1.stack.length ≤ s.2.2.2.1 ∧ s.2.1.slots.length ≤ s.2.2.2.2)
    (fun s => [(0, .ptr 0 0 0), (2, .f 1 (ks.map iV)), (4, .ptr 4 0 0), (6, .ptr 5 0 0), (7, .s (.int .i64 ((s.1 : Int) - 1)))])
    (fun s => [spB m f (.sl 3 0 ats.length ats.length) s.2.2.1, .dead, .dead, catB ats, ⟨[[.s (.bool true), .sl 6 0 s.2.1.stack.length s.2.2.2.1, .sl 7 0 s.2.1.slots.length s.2.2.2.2]], 3, 1, true⟩, ⟨[[.s (.bool false), .z, .z]], 3, 1, true⟩, ⟨s.2.1.stack.map iV, 1, s.2.2.2.1, true⟩, ⟨s.2.1.slots.map iV, 1, s.2.2.2.2, true⟩])
    (fun s => s.1) 1000 1000 ⟨(ks.length, a, code, c1, c2), ⟨Nat.le_refl _, by simp, hl, hs, hc1, hc2⟩, [], [], [0, 1, 2, 3, 4, 5, 1, 2], ⟨(show List.Nodup [0, 3, 4, 5, 1, 2] by decide), rfl⟩, ?_, by simp +contextual (maxSteps := 2000000) (disch := ((try unfold LIM at *); omega)) only [↓bcase_true, ↓bcase_false, WA, simprocAttr, wrap_i64]⟩ ?_
  · exact ⟨.inr (.inr rfl), .inl rfl, .inl rfl, .inr (.inl ⟨cat_nr _, rfl⟩), .inr (.inr rfl), .inr (.inl ⟨rfl, rfl⟩), .inr (.inl ⟨nrs_map iV_nr _, rfl⟩), .inr (.inl ⟨nrs_map iV_nr _, rfl⟩), trivial⟩
  rintro ⟨i, b, cd, d1, d2⟩ ⟨p1, p2, p3, p4, p5, p6⟩
  simp only at p1 p2 p3 p4 p5 p6
  cases i with
  | zero =>
    simp only [List.take_zero, List.reverse_nil, popsT] at p2
    simp +contextual (maxSteps := 2000000) (disch := ((try unfold LIM at *); omega)) only [↓bcase_true, ↓bcase_false, WA, simprocAttr, wrap_i64, ← p2]
    exact turn_end (q := (b, cd)) d1 d2 6 7 [] p5 p6 (by decide) rfl rfl rfl rfl rfl
  | succ i =>
    obtain ⟨x, hx⟩ : ∃ x, ks[i]? = some x := ⟨ks[i], List.getElem?_eq_getElem (by omega)⟩
    rw [take_rev hx] at p2
    simp only [popsT] at p2
    have hxv : (ks.map iV)[i]? = some (iV x) := by rw [List.getElem?_map, hx]; rfl
    have e1 : ((i + 1 : Nat) : Int) - 1 = i := by omega
    have pi : (0 : Int) ≤ i := by omega
    have lt : (i : Int) < ks.length := by omega
    by_cases c : cd = 0
    · subst c
      rw [if_pos rfl] at p2
      have hq := popT_len (a := b) (code := 0) (k := x)
      simp +contextual (maxSteps := 2000000) (disch := ((try unfold LIM at *); omega)) only [↓bcase_true, ↓bcase_false, WA, simprocAttr, wrap_i64, e1, pi, spB]
      refine DrawThen.of 1000 [0, 3, 4, 6, 7] (.old 0 (.old 2 (.old 3 (.old 4 (.old 5 (.go 1 (.go 6 (.go 7 .done)))))))) (panFree_loopN (panFree_body _ _)) (by kernel_rfl) (by kernel_rfl) (by kernel_rfl) ?_
      simp +contextual (maxSteps := 2000000) (disch := ((try unfold LIM at *); omega)) only [↓bcase_true, ↓bcase_false, WA, simprocAttr, wrap_i64, List.length_map, pi, lt, hxv, iV, WB9]
      refine DCall.turn (edit59 m f ats b 0 x p3) d1 d2 p5 p6 [0, 6, 7, 3] _ rfl (by simp) ⟨.inr rfl, .inl ⟨nrs_map iV_nr _, rfl⟩, .inl ⟨nrs_map iV_nr _, rfl⟩, .inl ⟨cat_nr _, rfl⟩, trivial⟩ rfl 1000 (.go 7 .done) (by kernel_rfl) ?_
      intro c3 c4 hc3 hc4
      simp +contextual (maxSteps := 2000000) (disch := ((try unfold LIM at *); omega)) only [↓bcase_true, ↓bcase_false, WA, simprocAttr, wrap_i64]
      try simp +contextual (maxSteps := 2000000) (disch := ((try unfold LIM at *); omega)) only [↓bcase_true, ↓bcase_false, WA, simprocAttr, wrap_i64, List.length_map, pi, lt, hxv, iV, WB9]
      repeat' apply And.intro
      all_goals
        refine ⟨(i, (popT b 0 x).1, (popT b 0 x).2, c3, c4), ⟨⟨by simp only; omega, p2, by simp only; omega, by simp only; omega, hc3, hc4⟩, by simp only; omega⟩, [], [], [0, 1, 2, 3, 4, 5, 8, 9], ⟨(show List.Nodup [0, 3, 4, 5, 8, 9] by decide), rfl⟩, ?_, by simp +contextual (maxSteps := 2000000) (disch := ((try unfold LIM at *); omega)) only [↓bcase_true, ↓bcase_false, WA, simprocAttr, wrap_i64]⟩
        exact ⟨.inr (.inr rfl), .inl rfl, .inl rfl, .inr (.inl ⟨cat_nr _, rfl⟩), .inr (.inr rfl), .inr (.inl ⟨rfl, rfl⟩), .inr (.inl ⟨nrs_map iV_nr _, rfl⟩), .inr (.inl ⟨nrs_map iV_nr _, rfl⟩), trivial⟩
    · rw [if_neg c] at p2
      simp +contextual (maxSteps := 2000000) (disch := ((try unfold LIM at *); omega)) only [↓bcase_true, ↓bcase_false, WA, simprocAttr, wrap_i64, e1, pi, spB, c, ← p2]
      exact turn_end (q := (b, cd)) d1 d2 6 7 [] p5 p6 (by decide) rfl rfl rfl rfl rfl
end Go.Proofs.YtijefmjfdhfjmaaDoor
/- part S17 -/
set_option linter.unusedVariables false
set_option linter.unusedSimpArgs false
set_option maxRecDepth 100000
namespace Go.Proofs.YtijefmjfdhfjmaaDoor
open Go Go.W Go.RowKit
theorem pure79 (n : Nat) (hn : n ≤ 1000) : PureV C 79 [.s (.int .i64 n)] (.f 1 ((List.replicate n (1 : Int)).map iV)) := by
  refine pure_of_run Tryd.func79 rfl (by kernel_rfl) (by kernel_rfl) (by simp) (fun _ => rfl) (fun _ => rfl) 6 1000 ?_
  simp +contextual (maxSteps := 2000000) (disch := ((try unfold LIM at *); omega)) only [↓bcase_true, ↓bcase_false, WA, simprocAttr, wrap_i64]
  refine LoopThen.own (ι := Nat × Nat) (fun s => s.1 ≤ n ∧ s.1 ≤ s.2) (fun s => [(0, .s (.int .i64 n)), (3, .sl 0 0 s.1 s.2), (4, .s (.int .i64 s.1))]) (fun s => [⟨(List.replicate s.1 (1 : Int)).map iV, 1, s.2, true⟩]) (fun s => n - s.1) 1000 1000
    ⟨(0, 0), ⟨Nat.zero_le _, Nat.le_refl _⟩, [0], by simp, by simp +contextual (maxSteps := 2000000) (disch := ((try unfold LIM at *); omega)) only [↓bcase_true, ↓bcase_false, WA, simprocAttr, wrap_i64], by simp +contextual (maxSteps := 2000000) (disch := ((try unfold LIM at *); omega)) only [↓bcase_true, ↓bcase_false, WA, simprocAttr, wrap_i64, nm_at]⟩ ?_
  rintro ⟨i, c⟩ ⟨p1, p2⟩
  simp only at p1 p2
  by_cases c2 : (i : Int) < n
  · simp +contextual (maxSteps := 2000000) (disch := ((try unfold LIM at *); omega)) only [↓bcase_true, ↓bcase_false, WA, simprocAttr, wrap_i64, c2, List.length_map, List.length_replicate, cast_succ]
    refine ⟨⟨by omega, by unfold LIM; omega⟩, fun cap' h1 _ => ⟨(i + 1, cap'), ⟨⟨by simp only; omega, h1⟩, by simp only; omega⟩, [2], by simp, ⟨.inl ⟨nrs_map iV_nr _, ?_⟩, trivial⟩, rfl, rfl⟩⟩
    show some (⟨(List.replicate i (1 : Int)).map iV ++ [[V.s (.int .i64 1)]], 1, cap', true⟩ : Blk) = some ⟨(List.replicate (i + 1) (1 : Int)).map iV, 1, cap', true⟩
    rw [List.replicate_succ', List.map_append]; rfl
  · have e : i = n := by omega
    subst e
    simp +contextual (maxSteps := 2000000) (disch := ((try unfold LIM at *); omega)) only [↓bcase_true, ↓bcase_false, WA, simprocAttr, wrap_i64, c2, List.length_map, List.length_replicate, List.take_length, takeTo]
    rw [List.take_of_length_le (by simp), iV_frz]
def prims16 : List ByteArray := [⟨#[43]⟩, ⟨#[45]⟩, ⟨#[42]⟩, ⟨#[47]⟩, ⟨#[37]⟩, ⟨#[60]⟩, ⟨#[60, 61]⟩, ⟨#[61]⟩, ⟨#[110, 111, 116]⟩, ⟨#[97, 116]⟩, ⟨#[108, 101, 110]⟩, ⟨#[112, 117, 116]⟩, ⟨#[106, 111, 105, 110]⟩, ⟨#[112, 114, 105, 110, 116]⟩, ⟨#[97, 110, 100]⟩, ⟨#[111, 114]⟩]
theorem pure77 : PureV C 77 [] (.f 1 (prims16.map sV)) := by
  refine pure_of_run Tryd.func77 rfl (by kernel_rfl) (by kernel_rfl) (by simp) (fun _ => rfl) (fun _ => rfl) 6 1000 ?_
  simp +contextual (maxSteps := 2000000) (disch := ((try unfold LIM at *); omega)) only [↓bcase_true, ↓bcase_false, WA, simprocAttr, wrap_i64, List.replicate, prims16, sV]
theorem pure93 (s : ByteArray) : PureV C 93 [.s (.string s)] (.s (.int .i64 (idxL (fun w => decide (w = s)) prims16 0 + 1))) := by
  refine pure_of_run Tryd.func93 rfl (by kernel_rfl) (by kernel_rfl) (by simp) (fun _ => rfl) (fun _ => rfl) 6 1000 ?_
  simp +contextual (maxSteps := 2000000) (disch := ((try unfold LIM at *); omega)) only [↓bcase_true, ↓bcase_false, WA, simprocAttr, wrap_i64]
  refine CallThen.pure pure77 1000 ?_
  simp +contextual (maxSteps := 2000000) (disch := ((try unfold LIM at *); omega)) only [↓bcase_true, ↓bcase_false, WA, simprocAttr, wrap_i64]
  refine LoopThen.pure (ι := Nat) (fun i => i ≤ 16 ∧ idxL (fun w => decide (w = s)) (prims16.drop i) i = idxL (fun w => decide (w = s)) prims16 0) (fun i => keepL [(0, .s (.string s)), (3, .f 1 (prims16.map sV)), (4, .s (.int .i64 i))]) (fun i => 16 - i)
    6 [0, 3, 4] 1000 1000 ⟨0, ⟨by omega, rfl⟩, by simp +contextual (maxSteps := 2000000) (disch := ((try unfold LIM at *); omega)) only [↓bcase_true, ↓bcase_false, WA, simprocAttr, wrap_i64]⟩ ?_
  have hl : prims16.length = 16 := rfl
  rintro i ⟨p1, p4⟩
  by_cases c2 : (i : Int) < prims16.length
  · obtain ⟨f, hf⟩ := get_lt c2
    have pi : (0 : Int) ≤ i := by omega
    have c2' : (i : Int) < 16 := by omega
    rw [drop_cons hf] at p4
    simp only [idxL] at p4
    by_cases c3 : f = s
    · rw [if_pos (by simp [c3])] at p4
      simp +contextual (maxSteps := 2000000) (disch := ((try unfold LIM at *); omega)) only [↓bcase_true, ↓bcase_false, WA, simprocAttr, wrap_i64, List.length_map, hl, c2, c2', hf, pi, sV, c3, ← p4]
    · rw [if_neg (by simp [c3])] at p4
      have c3' : ¬ s = f := fun e => c3 e.symm
      simp +contextual (maxSteps := 2000000) (disch := ((try unfold LIM at *); omega)) only [↓bcase_true, ↓bcase_false, WA, simprocAttr, wrap_i64, List.length_map, hl, c2, c2', hf, pi, sV, c3, c3', cast_succ]
      exact fun _ => ⟨i + 1, ⟨⟨by omega, by rw [← p4]; rfl⟩, by omega⟩, rfl⟩
  · have e : i = 16 := by omega
    subst e
    rw [List.drop_of_length_le (by rw [hl]; omega)] at p4
    simp only [idxL] at p4
    simp +contextual (maxSteps := 2000000) (disch := ((try unfold LIM at *); omega)) only [↓bcase_true, ↓bcase_false, WA, simprocAttr, wrap_i64, List.length_map, hl, c2, ← p4]
theorem ix_0 : idxL (fun w => decide (w = primW 0)) prims16 0 + 1 = 1 := by decide
theorem w76_0 : PureV C 76 [.s (.string (primW 0))] (primRes 0) := by
  refine pure_of_run Tryd.func76 rfl (by kernel_rfl) (by kernel_rfl) (by simp) (fun _ => rfl) (fun _ => rfl) 6 1000 ?_
  simp +contextual (maxSteps := 2000000) (disch := ((try unfold LIM at *); omega)) only [↓bcase_true, ↓bcase_false, WA, simprocAttr, wrap_i64]
  refine CallThen.pure (pure93 _) 1000 ?_
  simp +contextual (maxSteps := 2000000) (disch := ((try unfold LIM at *); omega)) only [↓bcase_true, ↓bcase_false, WA, simprocAttr, wrap_i64, ix_0, primRes, primT, iV, List.replicate, List.map_cons, List.map_nil]
theorem ix_1 : idxL (fun w => decide (w = primW 1)) prims16 0 + 1 = 2 := by decide
theorem w76_1 : PureV C 76 [.s (.string (primW 1))] (primRes 1) := by
  refine pure_of_run Tryd.func76 rfl (by kernel_rfl) (by kernel_rfl) (by simp) (fun _ => rfl) (fun _ => rfl) 6 1000 ?_
  simp +contextual (maxSteps := 2000000) (disch := ((try unfold LIM at *); omega)) only [↓bcase_true, ↓bcase_false, WA, simprocAttr, wrap_i64]
  refine CallThen.pure (pure93 _) 1000 ?_
  simp +contextual (maxSteps := 2000000) (disch := ((try unfold LIM at *); omega)) only [↓bcase_true, ↓bcase_false, WA, simprocAttr, wrap_i64, ix_1, primRes, primT, iV, List.replicate, List.map_cons, List.map_nil]
theorem ix_2 : idxL (fun w => decide (w = primW 2)) prims16 0 + 1 = 3 := by decide
theorem w76_2 : PureV C 76 [.s (.string (primW 2))] (primRes 2) := by
  refine pure_of_run Tryd.func76 rfl (by kernel_rfl) (by kernel_rfl) (by simp) (fun _ => rfl) (fun _ => rfl) 6 1000 ?_
  simp +contextual (maxSteps := 2000000) (disch := ((try unfold LIM at *); omega)) only [↓bcase_true, ↓bcase_false, WA, simprocAttr, wrap_i64]
  refine CallThen.pure (pure93 _) 1000 ?_
  simp +contextual (maxSteps := 2000000) (disch := ((try unfold LIM at *); omega)) only [↓bcase_true, ↓bcase_false, WA, simprocAttr, wrap_i64, ix_2, primRes, primT, iV, List.replicate, List.map_cons, List.map_nil]
theorem ix_3 : idxL (fun w => decide (w = primW 3)) prims16 0 + 1 = 4 := by decide
theorem w76_3 : PureV C 76 [.s (.string (primW 3))] (primRes 3) := by
  refine pure_of_run Tryd.func76 rfl (by kernel_rfl) (by kernel_rfl) (by simp) (fun _ => rfl) (fun _ => rfl) 6 1000 ?_
  simp +contextual (maxSteps := 2000000) (disch := ((try unfold LIM at *); omega)) only [↓bcase_true, ↓bcase_false, WA, simprocAttr, wrap_i64]
  refine CallThen.pure (pure93 _) 1000 ?_
  simp +contextual (maxSteps := 2000000) (disch := ((try unfold LIM at *); omega)) only [↓bcase_true, ↓bcase_false, WA, simprocAttr, wrap_i64, ix_3, primRes, primT, iV, List.replicate, List.map_cons, List.map_nil]
theorem ix_4 : idxL (fun w => decide (w = primW 4)) prims16 0 + 1 = 5 := by decide
theorem w76_4 : PureV C 76 [.s (.string (primW 4))] (primRes 4) := by
  refine pure_of_run Tryd.func76 rfl (by kernel_rfl) (by kernel_rfl) (by simp) (fun _ => rfl) (fun _ => rfl) 6 1000 ?_
  simp +contextual (maxSteps := 2000000) (disch := ((try unfold LIM at *); omega)) only [↓bcase_true, ↓bcase_false, WA, simprocAttr, wrap_i64]
  refine CallThen.pure (pure93 _) 1000 ?_
  simp +contextual (maxSteps := 2000000) (disch := ((try unfold LIM at *); omega)) only [↓bcase_true, ↓bcase_false, WA, simprocAttr, wrap_i64, ix_4, primRes, primT, iV, List.replicate, List.map_cons, List.map_nil]
theorem ix_5 : idxL (fun w => decide (w = primW 5)) prims16 0 + 1 = 6 := by decide
theorem w76_5 : PureV C 76 [.s (.string (primW 5))] (primRes 5) := by
  refine pure_of_run Tryd.func76 rfl (by kernel_rfl) (by kernel_rfl) (by simp) (fun _ => rfl) (fun _ => rfl) 6 1000 ?_
  simp +contextual (maxSteps := 2000000) (disch := ((try unfold LIM at *); omega)) only [↓bcase_true, ↓bcase_false, WA, simprocAttr, wrap_i64]
  refine CallThen.pure (pure93 _) 1000 ?_
  simp +contextual (maxSteps := 2000000) (disch := ((try unfold LIM at *); omega)) only [↓bcase_true, ↓bcase_false, WA, simprocAttr, wrap_i64, ix_5, primRes, primT, iV, List.replicate, List.map_cons, List.map_nil]
theorem ix_6 : idxL (fun w => decide (w = primW 6)) prims16 0 + 1 = 7 := by decide
theorem w76_6 : PureV C 76 [.s (.string (primW 6))] (primRes 6) := by
  refine pure_of_run Tryd.func76 rfl (by kernel_rfl) (by kernel_rfl) (by simp) (fun _ => rfl) (fun _ => rfl) 6 1000 ?_
  simp +contextual (maxSteps := 2000000) (disch := ((try unfold LIM at *); omega)) only [↓bcase_true, ↓bcase_false, WA, simprocAttr, wrap_i64]
  refine CallThen.pure (pure93 _) 1000 ?_
  simp +contextual (maxSteps := 2000000) (disch := ((try unfold LIM at *); omega)) only [↓bcase_true, ↓bcase_false, WA, simprocAttr, wrap_i64, ix_6, primRes, primT, iV, List.replicate, List.map_cons, List.map_nil]
theorem ix_7 : idxL (fun w => decide (w = primW 7)) prims16 0 + 1 = 8 := by decide
theorem w76_7 : PureV C 76 [.s (.string (primW 7))] (primRes 7) := by
  refine pure_of_run Tryd.func76 rfl (by kernel_rfl) (by kernel_rfl) (by simp) (fun _ => rfl) (fun _ => rfl) 6 1000 ?_
  simp +contextual (maxSteps := 2000000) (disch := ((try unfold LIM at *); omega)) only [↓bcase_true, ↓bcase_false, WA, simprocAttr, wrap_i64]
  refine CallThen.pure (pure93 _) 1000 ?_
  simp +contextual (maxSteps := 2000000) (disch := ((try unfold LIM at *); omega)) only [↓bcase_true, ↓bcase_false, WA, simprocAttr, wrap_i64, ix_7, primRes, primT, iV, List.replicate, List.map_cons, List.map_nil]
theorem ix_8 : idxL (fun w => decide (w = primW 8)) prims16 0 + 1 = 9 := by decide
theorem w76_8 : PureV C 76 [.s (.string (primW 8))] (primRes 8) := by
  refine pure_of_run Tryd.func76 rfl (by kernel_rfl) (by kernel_rfl) (by simp) (fun _ => rfl) (fun _ => rfl) 6 1000 ?_
  simp +contextual (maxSteps := 2000000) (disch := ((try unfold LIM at *); omega)) only [↓bcase_true, ↓bcase_false, WA, simprocAttr, wrap_i64]
  refine CallThen.pure (pure93 _) 1000 ?_
  simp +contextual (maxSteps := 2000000) (disch := ((try unfold LIM at *); omega)) only [↓bcase_true, ↓bcase_false, WA, simprocAttr, wrap_i64, ix_8, primRes, primT, iV, List.replicate, List.map_cons, List.map_nil]
theorem ix_9 : idxL (fun w => decide (w = primW 9)) prims16 0 + 1 = 10 := by decide
theorem w76_9 : PureV C 76 [.s (.string (primW 9))] (primRes 9) := by
  refine pure_of_run Tryd.func76 rfl (by kernel_rfl) (by kernel_rfl) (by simp) (fun _ => rfl) (fun _ => rfl) 6 1000 ?_
  simp +contextual (maxSteps := 2000000) (disch := ((try unfold LIM at *); omega)) only [↓bcase_true, ↓bcase_false, WA, simprocAttr, wrap_i64]
  refine CallThen.pure (pure93 _) 1000 ?_
  simp +contextual (maxSteps := 2000000) (disch := ((try unfold LIM at *); omega)) only [↓bcase_true, ↓bcase_false, WA, simprocAttr, wrap_i64, ix_9, primRes, primT, iV, List.replicate, List.map_cons, List.map_nil]
theorem ix_10 : idxL (fun w => decide (w = primW 10)) prims16 0 + 1 = 11 := by decide
theorem w76_10 : PureV C 76 [.s (.string (primW 10))] (primRes 10) := by
  refine pure_of_run Tryd.func76 rfl (by kernel_rfl) (by kernel_rfl) (by simp) (fun _ => rfl) (fun _ => rfl) 6 1000 ?_
  simp +contextual (maxSteps := 2000000) (disch := ((try unfold LIM at *); omega)) only [↓bcase_true, ↓bcase_false, WA, simprocAttr, wrap_i64]
  refine CallThen.pure (pure93 _) 1000 ?_
  simp +contextual (maxSteps := 2000000) (disch := ((try unfold LIM at *); omega)) only [↓bcase_true, ↓bcase_false, WA, simprocAttr, wrap_i64, ix_10, primRes, primT, iV, List.replicate, List.map_cons, List.map_nil]
theorem ix_11 : idxL (fun w => decide (w = primW 11)) prims16 0 + 1 = 12 := by decide
theorem w76_11 : PureV C 76 [.s (.string (primW 11))] (primRes 11) := by
  refine pure_of_run Tryd.func76 rfl (by kernel_rfl) (by kernel_rfl) (by simp) (fun _ => rfl) (fun _ => rfl) 6 1000 ?_
  simp +contextual (maxSteps := 2000000) (disch := ((try unfold LIM at *); omega)) only [↓bcase_true, ↓bcase_false, WA, simprocAttr, wrap_i64]
  refine CallThen.pure (pure93 _) 1000 ?_
  simp +contextual (maxSteps := 2000000) (disch := ((try unfold LIM at *); omega)) only [↓bcase_true, ↓bcase_false, WA, simprocAttr, wrap_i64, ix_11, primRes, primT, iV, List.replicate, List.map_cons, List.map_nil]
theorem ix_12 : idxL (fun w => decide (w = primW 12)) prims16 0 + 1 = 13 := by decide
theorem w76_12 : PureV C 76 [.s (.string (primW 12))] (primRes 12) := by
  refine pure_of_run Tryd.func76 rfl (by kernel_rfl) (by kernel_rfl) (by simp) (fun _ => rfl) (fun _ => rfl) 6 1000 ?_
  simp +contextual (maxSteps := 2000000) (disch := ((try unfold LIM at *); omega)) only [↓bcase_true, ↓bcase_false, WA, simprocAttr, wrap_i64]
  refine CallThen.pure (pure93 _) 1000 ?_
  simp +contextual (maxSteps := 2000000) (disch := ((try unfold LIM at *); omega)) only [↓bcase_true, ↓bcase_false, WA, simprocAttr, wrap_i64, ix_12, primRes, primT, iV, List.replicate, List.map_cons, List.map_nil]
theorem ix_13 : idxL (fun w => decide (w = primW 13)) prims16 0 + 1 = 14 := by decide
theorem w76_13 : PureV C 76 [.s (.string (primW 13))] (primRes 13) := by
  refine pure_of_run Tryd.func76 rfl (by kernel_rfl) (by kernel_rfl) (by simp) (fun _ => rfl) (fun _ => rfl) 6 1000 ?_
  simp +contextual (maxSteps := 2000000) (disch := ((try unfold LIM at *); omega)) only [↓bcase_true, ↓bcase_false, WA, simprocAttr, wrap_i64]
  refine CallThen.pure (pure93 _) 1000 ?_
  simp +contextual (maxSteps := 2000000) (disch := ((try unfold LIM at *); omega)) only [↓bcase_true, ↓bcase_false, WA, simprocAttr, wrap_i64, ix_13, primRes, primT, iV, List.replicate, List.map_cons, List.map_nil]
theorem pure76 : ∀ i : Nat, i < 14 → PureV C 76 [.s (.string (primW i))] (primRes i)
  | 0, _ => w76_0
  | 1, _ => w76_1
  | 2, _ => w76_2
  | 3, _ => w76_3
  | 4, _ => w76_4
  | 5, _ => w76_5
  | 6, _ => w76_6
  | 7, _ => w76_7
  | 8, _ => w76_8
  | 9, _ => w76_9
  | 10, _ => w76_10
  | 11, _ => w76_11
  | 12, _ => w76_12
  | 13, _ => w76_13
  | n + 14, h => absurd h (by omega)
end Go.Proofs.YtijefmjfdhfjmaaDoor
/- part S18 -/
set_option linter.unusedVariables false
set_option linter.unusedSimpArgs false
set_option maxRecDepth 100000
namespace Go.Proofs.YtijefmjfdhfjmaaDoor
open Go Go.W Go.RowKit
def ppT (a : At) (code : Int) (ks : List Int) (k : Int) : At × Int := pushT (popsT a code ks.reverse).1 (popsT a code ks.reverse).2 k
theorem popsT_len : ∀ {ks : List Int} {a : At} {code : Int}, (popsT a code ks).1.stack.length ≤ a.stack.length ∧ (popsT a code ks).1.slots.length = a.slots.length
  | [], a, code => ⟨Nat.le_refl _, rfl⟩
  | k :: ks, a, code => by
    simp only [popsT]
    split
    · have h1 := popsT_len (ks := ks) (a := (popT a code k).1) (code := (popT a code k).2)
      have h2 := popT_len (a := a) (code := code) (k := k)
      omega
    · exact ⟨Nat.le_refl _, rfl⟩
theorem primT_len (n : Nat) (h : n < 14) : (primT n).1.length ≤ 1000 := by
  revert h; revert n
  have : ∀ n : Fin 14, (primT n).1.length ≤ 1000 := by decide
  exact fun n h => this ⟨n, h⟩
theorem prims_at : ∀ n : Nat, n < 14 → (prims16.map sV)[n]? = some [V.s (.string (primW n))]
  | 0, _ => rfl
  | 1, _ => rfl
  | 2, _ => rfl
  | 3, _ => rfl
  | 4, _ => rfl
  | 5, _ => rfl
  | 6, _ => rfl
  | 7, _ => rfl
  | 8, _ => rfl
  | 9, _ => rfl
  | 10, _ => rfl
  | 11, _ => rfl
  | 12, _ => rfl
  | 13, _ => rfl
  | n + 14, h => absurd h (by omega)
theorem edit62 (m : Img) (f : IFun) (ats : Ats) (a : At) (code : Int) (x : Ins) (ks : List Int) (k : Int) (hl : a.stack.length ≤ 1000) (hs : a.slots.length ≤ 1000) (hks : ks.length ≤ 1000)
    (hx : (x.op = 5 ∧ ∃ n : Nat, n < 14 ∧ x.a = n + 1 ∧ ks = (primT n).1 ∧ k = (primT n).2) ∨ (x.op = 10 ∧ ∃ n : Nat, n ≤ 1000 ∧ x.a = n ∧ ks = List.replicate n 1 ∧ k = 3) ∨ (x.op = 8 ∧ ∃ (n : Nat) (g : IFun), x.a = n ∧ m.funs[n]? = some g ∧ ks = g.args ∧ k = g.typ)) :
    TurnV C 62 [.agg (insV x)] m f ats a code (ppT a code ks k) := by
  intro c1 c2 hc1 hc2
  refine calls_of_run Tryd.func62 rfl (by kernel_rfl) (by kernel_rfl) (by simp) 1000 ?_
  have hq := popsT_len (ks := ks.reverse) (a := a) (code := code)
  obtain ⟨xo, xa⟩ := x
  rcases hx with ⟨rfl, n, hn, rfl, rfl, rfl⟩ | ⟨rfl, n, hn, rfl, rfl, rfl⟩ | ⟨rfl, n, g, rfl, hg, rfl, rfl⟩
  · have e1 : (n : Int) + 1 - 1 = n := by omega
    have pi : (0 : Int) ≤ n := by omega
    have lt : (n : Int) < 16 := by omega
    have hl16 : prims16.length = 16 := rfl
    have hpv : (prims16.map sV)[n]? = some [.s (.string (primW n))] := prims_at n hn
    simp +contextual (maxSteps := 2000000) (disch := ((try unfold LIM at *); omega)) only [↓bcase_true, ↓bcase_false, WA, simprocAttr, wrap_i64, wH, wV, insV, List.length_map]
    refine DrawThen.of 1000 [] (.old 1 (.old 2 (.old 3 (.go 0 (.new 4 (.go 5 (.go 6 (.new 7 (.new 8 (.new 9 (.new 10 (.new 11 .done)))))))))))) (panFree_body _ _) (by kernel_rfl) (by kernel_rfl) (by kernel_rfl) ?_
    simp +contextual (maxSteps := 2000000) (disch := ((try unfold LIM at *); omega)) only [↓bcase_true, ↓bcase_false, WA, simprocAttr, wrap_i64, List.length_map, pi, lt, e1, hpv, hl16]
    refine DCall.pure pure77 1000 (.new 4 (.go 5 (.go 6 (.new 7 (.new 8 (.new 9 (.new 10 (.new 11 .done)))))))) (by kernel_rfl) ?_
    try simp +contextual (maxSteps := 2000000) (disch := ((try unfold LIM at *); omega)) only [↓bcase_true, ↓bcase_false, WA, simprocAttr, wrap_i64, List.length_map, pi, lt, e1, hpv, hl16]
    refine DCall.pure (pure76 n hn) 1000 (.new 7 (.new 8 (.new 9 (.new 10 (.new 11 .done))))) (by kernel_rfl) ?_
    simp +contextual (maxSteps := 2000000) (disch := ((try unfold LIM at *); omega)) only [↓bcase_true, ↓bcase_false, WA, simprocAttr, wrap_i64, primRes]
    try simp +contextual (maxSteps := 2000000) (disch := ((try unfold LIM at *); omega)) only [↓bcase_true, ↓bcase_false, WA, simprocAttr, wrap_i64, List.length_map, pi, lt, e1, hpv, hl16]
    refine CallThen.turn (edit78 m f ats a code _ hl hs hks) c1 c2 hc1 hc2 [0, 1, 2, 3] (by simp) ⟨.inr rfl, .inl ⟨nrs_map iV_nr _, rfl⟩, .inl ⟨nrs_map iV_nr _, rfl⟩, .inl ⟨cat_nr _, rfl⟩, trivial⟩ rfl 1000 ?_
    intro c3 c4 hc3 hc4
    simp +contextual (maxSteps := 2000000) (disch := ((try unfold LIM at *); omega)) only [↓bcase_true, ↓bcase_false, WA, simprocAttr, wrap_i64]
    refine CallThen.turn (edit75 m f ats _ _ _ (by omega)) c3 c4 hc3 hc4 [0, 7, 8, 3] (by simp) ⟨.inr rfl, .inl ⟨nrs_map iV_nr _, rfl⟩, .inl ⟨nrs_map iV_nr _, rfl⟩, .inl ⟨cat_nr _, rfl⟩, trivial⟩ rfl 1000 ?_
    intro c5 c6 hc5 hc6
    simp +contextual (maxSteps := 2000000) (disch := ((try unfold LIM at *); omega)) only [↓bcase_true, ↓bcase_false, WA, simprocAttr, wrap_i64]
    exact turn_end (q := ppT a code (primT n).1 (primT n).2) c5 c6 9 10 [] hc5 hc6 (by decide) rfl rfl rfl rfl rfl
  · have pi : (0 : Int) ≤ n := by omega
    simp +contextual (maxSteps := 2000000) (disch := ((try unfold LIM at *); omega)) only [↓bcase_true, ↓bcase_false, WA, simprocAttr, wrap_i64, wH, wV, insV, List.length_map]
    refine DrawThen.of 1000 [0, 1, 2, 3, 6] (.old 0 (.old 1 (.old 2 (.old 3 (.old 4 (.go 5 (.go 6 (.go 7 (.go 8 .done))))))))) (panFree_body _ _) (by kernel_rfl) (by kernel_rfl) (by kernel_rfl) ?_
    simp +contextual (maxSteps := 2000000) (disch := ((try unfold LIM at *); omega)) only [↓bcase_true, ↓bcase_false, WA, simprocAttr, wrap_i64, List.length_map]
    refine DCall.pure (pure79 n hn) 1000 (.go 6 (.go 7 (.go 8 .done))) (by kernel_rfl) ?_
    simp +contextual (maxSteps := 2000000) (disch := ((try unfold LIM at *); omega)) only [↓bcase_true, ↓bcase_false, WA, simprocAttr, wrap_i64]
    try simp +contextual (maxSteps := 2000000) (disch := ((try unfold LIM at *); omega)) only [↓bcase_true, ↓bcase_false, WA, simprocAttr, wrap_i64, List.length_map]
    refine DCall.turn (edit78 m f ats a code _ hl hs hks) c1 c2 hc1 hc2 [0, 1, 2, 3] _ rfl (by simp) ⟨.inr rfl, .inl ⟨nrs_map iV_nr _, rfl⟩, .inl ⟨nrs_map iV_nr _, rfl⟩, .inl ⟨cat_nr _, rfl⟩, trivial⟩ rfl 1000 (.go 7 (.go 8 .done)) (by kernel_rfl) ?_
    intro c3 c4 hc3 hc4
    simp +contextual (maxSteps := 2000000) (disch := ((try unfold LIM at *); omega)) only [↓bcase_true, ↓bcase_false, WA, simprocAttr, wrap_i64]
    try simp +contextual (maxSteps := 2000000) (disch := ((try unfold LIM at *); omega)) only [↓bcase_true, ↓bcase_false, WA, simprocAttr, wrap_i64, List.length_map]
    refine DCall.turn (edit75 m f ats _ _ _ (by omega)) c3 c4 hc3 hc4 [0, 7, 8, 3] _ rfl (by simp) ⟨.inr rfl, .inl ⟨nrs_map iV_nr _, rfl⟩, .inl ⟨nrs_map iV_nr _, rfl⟩, .inl ⟨cat_nr _, rfl⟩, trivial⟩ rfl 1000 (.go 8 .done) (by kernel_rfl) ?_
    intro c5 c6 hc5 hc6
    simp +contextual (maxSteps := 2000000) (disch := ((try unfold LIM at *); omega)) only [↓bcase_true, ↓bcase_false, WA, simprocAttr, wrap_i64]
    try simp +contextual (maxSteps := 2000000) (disch := ((try unfold LIM at *); omega)) only [↓bcase_true, ↓bcase_false, WA, simprocAttr, wrap_i64, List.length_map]
    repeat' apply And.intro
    all_goals
      exact turn_end (q := ppT a code (List.replicate n 1) 3) c5 c6 9 10 [] hc5 hc6 (by decide) rfl rfl rfl rfl rfl
  · have pi : (0 : Int) ≤ n := by omega
    have lt : (n : Int) < m.funs.length := by have := (List.getElem?_eq_some_iff.1 hg).1; omega
    have hgv : (m.funs.map fnV)[n]? = some (fnV g) := by rw [List.getElem?_map, hg]; rfl
    simp +contextual (maxSteps := 2000000) (disch := ((try unfold LIM at *); omega)) only [↓bcase_true, ↓bcase_false, WA, simprocAttr, wrap_i64, wH, wV, insV, spB, List.length_map]
    refine DrawThen.of 1000 [] (.old 0 (.old 1 (.old 2 (.old 3 (.old 4 (.old 5 (.old 6 (.old 7 (.old 8 (.go 9 (.go 10 .done))))))))))) (panFree_body _ _) (by kernel_rfl) (by kernel_rfl) (by kernel_rfl) ?_
    simp +contextual (maxSteps := 2000000) (disch := ((try unfold LIM at *); omega)) only [↓bcase_true, ↓bcase_false, WA, simprocAttr, wrap_i64, List.length_map, pi, lt, hgv, fnV]
    refine DrawThen.of 1000 [0, 1, 2, 3, 6] (.old 0 (.old 1 (.old 2 (.old 3 (.old 4 (.old 6 (.old 7 (.go 5 (.go 8 (.go 9 .done)))))))))) (panFree_body _ _) (by kernel_rfl) (by kernel_rfl) (by kernel_rfl) ?_
    simp +contextual (maxSteps := 2000000) (disch := ((try unfold LIM at *); omega)) only [↓bcase_true, ↓bcase_false, WA, simprocAttr, wrap_i64, List.length_map]
    refine DCall.turn (edit78 m f ats a code _ hl hs hks) c1 c2 hc1 hc2 [0, 1, 2, 3] _ rfl (by simp) ⟨.inr rfl, .inl ⟨nrs_map iV_nr _, rfl⟩, .inl ⟨nrs_map iV_nr _, rfl⟩, .inl ⟨cat_nr _, rfl⟩, trivial⟩ rfl 1000 (.go 8 (.go 9 .done)) (by kernel_rfl) ?_
    intro c3 c4 hc3 hc4
    simp +contextual (maxSteps := 2000000) (disch := ((try unfold LIM at *); omega)) only [↓bcase_true, ↓bcase_false, WA, simprocAttr, wrap_i64]
    try simp +contextual (maxSteps := 2000000) (disch := ((try unfold LIM at *); omega)) only [↓bcase_true, ↓bcase_false, WA, simprocAttr, wrap_i64, List.length_map]
    refine DCall.turn (edit75 m f ats _ _ _ (by omega)) c3 c4 hc3 hc4 [0, 8, 9, 3] _ rfl (by simp) ⟨.inr rfl, .inl ⟨nrs_map iV_nr _, rfl⟩, .inl ⟨nrs_map iV_nr _, rfl⟩, .inl ⟨cat_nr _, rfl⟩, trivial⟩ rfl 1000 (.go 9 .done) (by kernel_rfl) ?_
    intro c5 c6 hc5 hc6
    simp +contextual (maxSteps := 2000000) (disch := ((try unfold LIM at *); omega)) only [↓bcase_true, ↓bcase_false, WA, simprocAttr, wrap_i64]
    try simp +contextual (maxSteps := 2000000) (disch := ((try unfold LIM at *); omega)) only [↓bcase_true, ↓bcase_false, WA, simprocAttr, wrap_i64, List.length_map]
    repeat' apply And.intro
    all_goals
      exact turn_end (q := ppT a code g.args g.typ) c5 c6 10 11 [] hc5 hc6 (by decide) rfl rfl rfl rfl rfl
end Go.Proofs.YtijefmjfdhfjmaaDoor
/- part S19 -/
set_option linter.unusedVariables false
set_option linter.unusedSimpArgs false
set_option maxRecDepth 100000
namespace Go.Proofs.YtijefmjfdhfjmaaDoor
open Go Go.W Go.RowKit
theorem edit62p (m : Img) (f : IFun) (ats : Ats) (a : At) (code : Int) (x : Ins) (hl : a.stack.length ≤ 1000) (hx : x.op = 1 ∨ x.op = 2) : TurnV C 62 [.agg (insV x)] m f ats a code (pushT a code x.op) := by
  intro c1 c2 hc1 hc2
  refine calls_of_run Tryd.func62 rfl (by kernel_rfl) (by kernel_rfl) (by simp) 1000 ?_
  obtain ⟨xo, xa⟩ := x
  rcases hx with rfl | rfl
  · simp +contextual (maxSteps := 2000000) (disch := ((try unfold LIM at *); omega)) only [↓bcase_true, ↓bcase_false, WA, simprocAttr, wrap_i64, wH, wV, insV, List.length_map]
    refine CallThen.turn (edit75 m f ats a code 1 hl) c1 c2 hc1 hc2 [0, 1, 2, 3] (by simp) ⟨.inr rfl, .inl ⟨nrs_map iV_nr _, rfl⟩, .inl ⟨nrs_map iV_nr _, rfl⟩, .inl ⟨cat_nr _, rfl⟩, trivial⟩ rfl 1000 ?_
    intro c5 c6 hc5 hc6
    simp +contextual (maxSteps := 2000000) (disch := ((try unfold LIM at *); omega)) only [↓bcase_true, ↓bcase_false, WA, simprocAttr, wrap_i64]
    exact turn_end (q := pushT a code 1) c5 c6 7 8 [] hc5 hc6 (by decide) rfl rfl rfl rfl rfl
  · simp +contextual (maxSteps := 2000000) (disch := ((try unfold LIM at *); omega)) only [↓bcase_true, ↓bcase_false, WA, simprocAttr, wrap_i64, wH, wV, insV, List.length_map]
    refine CallThen.turn (edit75 m f ats a code 2 hl) c1 c2 hc1 hc2 [0, 1, 2, 3] (by simp) ⟨.inr rfl, .inl ⟨nrs_map iV_nr _, rfl⟩, .inl ⟨nrs_map iV_nr _, rfl⟩, .inl ⟨cat_nr _, rfl⟩, trivial⟩ rfl 1000 ?_
    intro c5 c6 hc5 hc6
    simp +contextual (maxSteps := 2000000) (disch := ((try unfold LIM at *); omega)) only [↓bcase_true, ↓bcase_false, WA, simprocAttr, wrap_i64]
    exact turn_end (q := pushT a code 2) c5 c6 7 8 [] hc5 hc6 (by decide) rfl rfl rfl rfl rfl
/-! ### back, form, copy -/
def backT (f : IFun) (a : At) (code : Int) : Int := match backE a.stack f.typ with
  | .ok _ => code
  | .error c => badC code c
theorem edit57 (m : Img) (f : IFun) (ats : Ats) (a : At) (code : Int) (c1 c2 : Nat) (hl : a.stack.length ≤ 1000) : CallsV C 57 [.ptr 0 0 0, wV a c1 c2] (wH m f ats code a c1 c2) fun res h' => res = .ret (.tup []) ∧ h' = wH m f ats (backT f a code) a c1 c2 := by
  refine calls_of_run Tryd.func57 rfl (by kernel_rfl) (by kernel_rfl) (by simp) 1000 ?_
  have fin : ∀ code' rest, backT f a code = code' → Up 4 (fun res h' => res = .ret (.tup []) ∧ h' = wH m f ats (backT f a code) a c1 c2) (.ret (.tup [])) (wH m f ats code' a c1 c2 ++ rest) := fun code' rest e => by
    rw [e]
    exact Up.gcF (.tup []) [] [] [0, 1, 2, 3] (wH m f ats code' a c1 c2) (by simp) rfl ⟨.inr rfl, .inl ⟨nrs_map iV_nr _, rfl⟩, .inl ⟨nrs_map iV_nr _, rfl⟩, .inl ⟨cat_nr _, rfl⟩, trivial⟩ rfl ⟨rfl, rfl⟩
  by_cases h1 : (a.stack.length : Int) = 1
  · obtain ⟨v, hv⟩ : ∃ v, a.stack = [v] := by
      match hst : a.stack with
      | [v] => exact ⟨v, rfl⟩
      | [] => rw [hst] at h1; simp at h1
      | _ :: _ :: _ => rw [hst] at h1; simp at h1; omega
    have hg : (a.stack.map iV)[0]? = some (iV v) := by rw [hv]; rfl
    simp +contextual (maxSteps := 2000000) (disch := ((try unfold LIM at *); omega)) only [↓bcase_true, ↓bcase_false, WA, simprocAttr, wrap_i64, wH, wV, h1, List.length_map]
    refine DrawThen.of 1000 [] (.old 0 (.old 1 (.old 2 (.old 3 (.old 4 (.old 5 (.old 6 (.old 7 (.old 8 (.old 9 (.old 10 .done))))))))))) (panFree_body _ _) (by kernel_rfl) (by kernel_rfl) (by kernel_rfl) ?_
    by_cases h2 : v = f.typ
    · have e : backT f a code = code := by simp [backT, backE, hv, h2]
      simp +contextual (maxSteps := 2000000) (disch := ((try unfold LIM at *); omega)) only [↓bcase_true, ↓bcase_false, WA, simprocAttr, wrap_i64, spB, h1, h2, hg, iV, List.length_map]
      exact fin code _ e
    · have e : backT f a code = badC code 5 := by simp [backT, backE, hv, h2]
      simp +contextual (maxSteps := 2000000) (disch := ((try unfold LIM at *); omega)) only [↓bcase_true, ↓bcase_false, WA, simprocAttr, wrap_i64, spB, h1, h2, hg, iV, List.length_map]
      refine CallThen.bad (m0 := m) (f := f) (code := code) _ _ rfl rfl rfl 1000 ?_
      simp +contextual (maxSteps := 2000000) (disch := ((try unfold LIM at *); omega)) only [↓bcase_true, ↓bcase_false, WA, simprocAttr, wrap_i64]
      exact fin _ _ e
  · have e : backT f a code = badC code 4 := by
      have : ¬ a.stack.length = 1 := by omega
      simp [backT, backE, this]
    simp +contextual (maxSteps := 2000000) (disch := ((try unfold LIM at *); omega)) only [↓bcase_true, ↓bcase_false, WA, simprocAttr, wrap_i64, wH, wV, h1, List.length_map]
    refine CallThen.bad _ _ rfl rfl rfl 1000 ?_
    simp +contextual (maxSteps := 2000000) (disch := ((try unfold LIM at *); omega)) only [↓bcase_true, ↓bcase_false, WA, simprocAttr, wrap_i64]
    exact fin _ _ e
theorem edit56 (m : Img) (f : IFun) (ats : Ats) (code : Int) (k : Nat) (x : Ins) : CallsV C 56 [.ptr 0 0 0, .s (.int .i64 k), .agg (insV x)] [spB m f (.sl 1 0 ats.length ats.length) code, catB ats] fun res h' => res = .ret (.s (.bool (formB m.funs.length f.slots k x))) ∧ h' = [spB m f (.sl 1 0 ats.length ats.length) code, catB ats] := by
  refine calls_of_run Tryd.func56 rfl (by kernel_rfl) (by kernel_rfl) (by simp) 1000 ?_
  have fin : ∀ b rest, formB m.funs.length f.slots k x = b → Up 2 (fun res h' => res = .ret (.s (.bool (formB m.funs.length f.slots k x))) ∧ h' = [spB m f (.sl 1 0 ats.length ats.length) code, catB ats]) (.ret (.s (.bool b))) (spB m f (.sl 1 0 ats.length ats.length) code :: catB ats :: rest) := fun b rest e => by
    rw [e]
    exact Up.gcF (.s (.bool b)) [] [] [0, 1] [spB m f (.sl 1 0 ats.length ats.length) code, catB ats] (by simp) rfl ⟨.inr rfl, .inl ⟨cat_nr _, rfl⟩, trivial⟩ rfl ⟨rfl, rfl⟩
  obtain ⟨xo, xa⟩ := x
  by_cases o3 : xo = 3
  · subst o3
    simp +contextual (maxSteps := 2000000) (disch := ((try unfold LIM at *); omega)) only [↓bcase_true, ↓bcase_false, WA, simprocAttr, wrap_i64, spB, insV]
    refine DrawThen.of 1000 [] (.old 0 (.old 1 (.old 2 (.old 3 (.old 4 (.old 5 (.old 6 (.old 7 (.old 8 .done))))))))) (panFree_body _ _) (by kernel_rfl) (by kernel_rfl) (by kernel_rfl) ?_
    simp +contextual (maxSteps := 2000000) (disch := ((try unfold LIM at *); omega)) only [↓bcase_true, ↓bcase_false, WA, simprocAttr, wrap_i64]
    exact fin _ _ rfl
  by_cases o4 : xo = 4
  · subst o4
    simp +contextual (maxSteps := 2000000) (disch := ((try unfold LIM at *); omega)) only [↓bcase_true, ↓bcase_false, WA, simprocAttr, wrap_i64, spB, insV]
    refine DrawThen.of 1000 [] (.old 0 (.old 1 (.old 2 (.old 3 (.old 4 (.old 5 (.old 6 (.old 7 (.old 8 .done))))))))) (panFree_body _ _) (by kernel_rfl) (by kernel_rfl) (by kernel_rfl) ?_
    simp +contextual (maxSteps := 2000000) (disch := ((try unfold LIM at *); omega)) only [↓bcase_true, ↓bcase_false, WA, simprocAttr, wrap_i64]
    exact fin _ _ rfl
  by_cases o5 : xo = 5
  · subst o5
    by_cases d1 : 1 ≤ xa
    · by_cases d2 : xa ≤ 14
      · simp +contextual (maxSteps := 2000000) (disch := ((try unfold LIM at *); omega)) only [↓bcase_true, ↓bcase_false, WA, simprocAttr, wrap_i64, spB, insV, d1, d2]
        exact fin true _ (by simp [formB, d1, d2])
      · simp +contextual (maxSteps := 2000000) (disch := ((try unfold LIM at *); omega)) only [↓bcase_true, ↓bcase_false, WA, simprocAttr, wrap_i64, spB, insV, d1, d2]
        exact fin false _ (by simp [formB, d1, d2])
    · simp +contextual (maxSteps := 2000000) (disch := ((try unfold LIM at *); omega)) only [↓bcase_true, ↓bcase_false, WA, simprocAttr, wrap_i64, spB, insV, d1]
      exact fin false _ (by simp [formB, d1])
  by_cases o6 : xo = 6
  · subst o6
    simp +contextual (maxSteps := 2000000) (disch := ((try unfold LIM at *); omega)) only [↓bcase_true, ↓bcase_false, WA, simprocAttr, wrap_i64, spB, insV]
    exact fin _ _ rfl
  by_cases o7 : xo = 7
  · subst o7
    simp +contextual (maxSteps := 2000000) (disch := ((try unfold LIM at *); omega)) only [↓bcase_true, ↓bcase_false, WA, simprocAttr, wrap_i64, spB, insV]
    exact fin _ _ rfl
  by_cases o8 : xo = 8
  · subst o8
    simp +contextual (maxSteps := 2000000) (disch := ((try unfold LIM at *); omega)) only [↓bcase_true, ↓bcase_false, WA, simprocAttr, wrap_i64, spB, insV]
    refine DrawThen.of 1000 [] (.old 0 (.old 1 (.old 2 (.old 3 (.old 4 (.old 5 (.old 6 (.old 7 (.old 8 (.old 9 .done)))))))))) (panFree_body _ _) (by kernel_rfl) (by kernel_rfl) (by kernel_rfl) ?_
    simp +contextual (maxSteps := 2000000) (disch := ((try unfold LIM at *); omega)) only [↓bcase_true, ↓bcase_false, WA, simprocAttr, wrap_i64, List.length_map]
    exact fun _ => fin _ _ rfl
  by_cases o10 : xo = 10
  · subst o10
    simp +contextual (maxSteps := 2000000) (disch := ((try unfold LIM at *); omega)) only [↓bcase_true, ↓bcase_false, WA, simprocAttr, wrap_i64, spB, insV]
    exact fin _ _ rfl
  have e : formB m.funs.length f.slots k ⟨xo, xa⟩ = true := by simp [formB, o3, o4, o5, o6, o7, o8, o10]
  simp +contextual (maxSteps := 2000000) (disch := ((try unfold LIM at *); omega)) only [↓bcase_true, ↓bcase_false, WA, simprocAttr, wrap_i64, spB, insV, o3, o4, o5, o6, o7, o8, o10]
  exact fin _ _ e
/-- A copy of what is known. -/
theorem copy55 (a : At) (c1 c2 : Nat) (hl : a.stack.length ≤ 1000) (hs : a.slots.length ≤ 1000) (hc1 : a.stack.length ≤ c1) (hc2 : a.slots.length ≤ c2) : CallsV C 55 [.agg [.s (.bool true), .sl 0 0 a.stack.length c1, .sl 1 0 a.slots.length c2]] [⟨a.stack.map iV, 1, c1, true⟩, ⟨a.slots.map iV, 1, c2, true⟩] fun res h' => ∃ d1 d2, a.stack.length ≤ d1 ∧ a.slots.length ≤ d2 ∧
    res = .ret (.agg [.s (.bool true), .sl 2 0 a.stack.length d1, .sl 3 0 a.slots.length d2]) ∧ h' = [⟨a.stack.map iV, 1, c1, true⟩, ⟨a.slots.map iV, 1, c2, true⟩, ⟨a.stack.map iV, 1, d1, true⟩, ⟨a.slots.map iV, 1, d2, true⟩] := by
  refine calls_of_run Tryd.func55 rfl (by kernel_rfl) (by kernel_rfl) (by simp) 1000 ?_
  have t1 : (a.stack.map iV).take a.stack.length = a.stack.map iV := List.take_of_length_le (by simp)
  have t2 : (a.slots.map iV).take a.slots.length = a.slots.map iV := List.take_of_length_le (by simp)
  simp +contextual (maxSteps := 2000000) (disch := ((try unfold LIM at *); omega)) only [↓bcase_true, ↓bcase_false, WA, simprocAttr, wrap_i64]
  refine DrawThen.of 1000 [0, 1, 3] (.old 0 (.old 1 (.old 3 (.old 4 (.old 7 (.old 8 (.or 2 (.or 5 (.go 6 (.go 9 (.new 10 (.go 11 .done)))) (.go 6 (.go 5 (.go 9 (.new 10 (.go 11 .done)))))) (.go 6 (.go 2 (.go 5 (.go 9 (.new 10 (.go 11 .done))))))))))))) (panFree_body _ _) (by kernel_rfl) (by kernel_rfl) (by kernel_rfl) ?_
  simp +contextual (maxSteps := 2000000) (disch := ((try unfold LIM at *); omega)) only [↓bcase_true, ↓bcase_false, WA, simprocAttr, wrap_i64, List.length_map, t1, t2, takeTo, leafs_map iV_ok]
  repeat' apply And.intro
  all_goals
    first
    | omega
    | (unfold LIM; omega)
    | (intro cap' e1 _
       refine ⟨⟨by omega, by unfold LIM; omega⟩, fun cap2 e2 _ => ?_⟩
       first
       | exact Up.gcF (.agg [.s (.bool true), .sl 2 0 a.stack.length cap', .sl 3 0 a.slots.length cap2]) [] [] [0, 1, 5, 7] [⟨a.stack.map iV, 1, c1, true⟩, ⟨a.slots.map iV, 1, c2, true⟩, ⟨a.stack.map iV, 1, cap', true⟩, ⟨a.slots.map iV, 1, cap2, true⟩] (by simp) rfl ⟨.inl ⟨nrs_map iV_nr _, rfl⟩, .inl ⟨nrs_map iV_nr _, rfl⟩, .inl ⟨nrs_map iV_nr _, rfl⟩, .inl ⟨nrs_map iV_nr _, rfl⟩, trivial⟩ rfl ⟨cap', cap2, e1, e2, rfl, rfl⟩
       | exact Up.gcF (.agg [.s (.bool true), .sl 2 0 a.stack.length cap', .sl 3 0 a.slots.length cap2]) [] [] [0, 1, 6, 7] [⟨a.stack.map iV, 1, c1, true⟩, ⟨a.slots.map iV, 1, c2, true⟩, ⟨a.stack.map iV, 1, cap', true⟩, ⟨a.slots.map iV, 1, cap2, true⟩] (by simp) rfl ⟨.inl ⟨nrs_map iV_nr _, rfl⟩, .inl ⟨nrs_map iV_nr _, rfl⟩, .inl ⟨nrs_map iV_nr _, rfl⟩, .inl ⟨nrs_map iV_nr _, rfl⟩, trivial⟩ rfl ⟨cap', cap2, e1, e2, rfl, rfl⟩)
end Go.Proofs.YtijefmjfdhfjmaaDoor
/- part S20 -/
set_option linter.unusedVariables false
set_option linter.unusedSimpArgs false
set_option maxRecDepth 100000
namespace Go.Proofs.YtijefmjfdhfjmaaDoor
open Go Go.W Go.RowKit
def toT (ats : Ats) (place : Nat) (a : At) (code : Int) : Ats × Int := match reachE ats place a with
  | .ok ats' => (ats', code)
  | .error c => (ats, badC code c)
theorem set_catC (ats : Ats) (i : Nat) (a : At) : (ats.map catC).set i [.s (.bool true), .l 1 (a.stack.map iV), .l 1 (a.slots.map iV)] = (ats.set i (some a)).map catC := by rw [List.map_set]; rfl
theorem iV_rn (ρ : Nat → Nat) (l : List Int) : ((l.map iV).map fun el => el.map (rnC ρ)) = l.map iV := congrArg Blk.els (rnB_iV2 ρ l 0)
theorem cellOk_l (n : Nat) (els : List (List V)) : cellOk (.l n els) = false := rfl
theorem rn_catP (ρ : Nat → Nat) (ats : Ats) (to b l c b' l' c' n : Nat) : rnB ρ ⟨(ats.map catC).set to [.s (.bool true), .sl b 0 l c, .sl b' 0 l' c'], 3, n, true⟩ = ⟨(ats.map catC).set to [.s (.bool true), .sl (ρ b) 0 l c, .sl (ρ b') 0 l' c'], 3, n, true⟩ := by
  have e : (ats.map catC).map (fun el => el.map (rnC ρ)) = ats.map catC := congrArg Blk.els (rnB_cat ρ ats)
  show Blk.mk (((ats.map catC).set to [V.s (.bool true), V.sl b 0 l c, V.sl b' 0 l' c']).map fun el => el.map (rnC ρ)) 3 n true = _
  rw [List.map_set, e]; rfl
def toH (m : Img) (f : IFun) (ats : Ats) (code : Int) (a : At) (c1 c2 place : Nat) (t : At) (cap cap2 : Nat) (xs : List Int) : H :=
  [spB m f (.sl 3 0 ats.length ats.length) code, ⟨a.stack.map iV, 1, c1, true⟩, ⟨a.slots.map iV, 1, c2, true⟩, ⟨(ats.map catC).set place [.s (.bool true), .sl 5 0 t.stack.length cap, .sl 6 0 t.slots.length cap2], 3, ats.length, true⟩,
    ⟨[[.s (.bool true), .sl 1 0 a.stack.length c1, .sl 2 0 a.slots.length c2]], 3, 1, true⟩, ⟨t.stack.map iV, 1, cap, true⟩, ⟨xs.map iV, 1, cap2, true⟩, ⟨[[.s (.bool true), .sl 5 0 t.stack.length cap, .sl 6 0 t.slots.length cap2]], 3, 1, true⟩]
theorem toH_gc (m : Img) (f : IFun) (ats : Ats) (code : Int) (a : At) (c1 c2 place : Nat) (t : At) (cap cap2 : Nat) (xs : List Int) :
    gcL (nm [0, 1, 2, 3, 4, 5, 6, 7] 8) (toH m f ats code a c1 c2 place t cap cap2 xs) [0, 1, 2, 3, 4, 5, 6, 7] (toH m f ats code a c1 c2 place t cap cap2 xs) :=
  ⟨.inr rfl, .inl ⟨nrs_map iV_nr _, rfl⟩, .inl ⟨nrs_map iV_nr _, rfl⟩, .inr (by rw [rn_catP]; rfl), .inr rfl, .inl ⟨nrs_map iV_nr _, rfl⟩, .inl ⟨nrs_map iV_nr _, rfl⟩, .inr rfl, trivial⟩
theorem edit58 (m : Img) (f : IFun) (ats : Ats) (a : At) (code : Int) (place c1 c2 : Nat) (n : Nat) (hl : a.stack.length ≤ 1000) (hn : a.slots.length = n) (hn2 : n ≤ 1000) (hc1 : a.stack.length ≤ c1) (hc2 : a.slots.length ≤ c2) (hats : ats.length = f.code.length) (hat : ∀ t : At, some t ∈ ats → t.slots.length = n ∧ t.stack.length ≤ 100) (hfl : f.code.length ≤ 1000) :
    CallsV C 58 [.ptr 0 0 0, .s (.int .i64 place), wV a c1 c2] (wH m f ats code a c1 c2) fun res h' => res = .ret (.tup []) ∧ h' = wH m f (toT ats place a code).1 (toT ats place a code).2 a c1 c2 := by
  refine calls_of_run Tryd.func58 rfl (by kernel_rfl) (by kernel_rfl) (by simp) 1000 ?_
  have fin : ∀ ats' code' rest, toT ats place a code = (ats', code') → ats'.length = ats.length → Up 4 (fun res h' => res = .ret (.tup []) ∧ h' = wH m f (toT ats place a code).1 (toT ats place a code).2 a c1 c2) (.ret (.tup [])) (spB m f (.sl 3 0 ats.length ats.length) code' :: ⟨a.stack.map iV, 1, c1, true⟩ :: ⟨a.slots.map iV, 1, c2, true⟩ :: catB ats' :: rest) := fun ats' code' rest e el => by
    rw [e]
    exact Up.gcF (.tup []) [] [] [0, 1, 2, 3] (wH m f ats' code' a c1 c2) (by simp) rfl ⟨.inr (by rw [el]; rfl), .inl ⟨nrs_map iV_nr _, rfl⟩, .inl ⟨nrs_map iV_nr _, rfl⟩, .inl ⟨cat_nr _, rfl⟩, trivial⟩ rfl ⟨rfl, rfl⟩
  have finF : ∀ (st' sl' : List Int) (d1 d2 : Nat) (code' : Int) (B4 : Blk) (rest : H), place < ats.length → toT ats place a code = (ats.set place (some ⟨st', sl'⟩), code') → Up 4 (fun res h' => res = .ret (.tup []) ∧ h' = wH m f (toT ats place a code).1 (toT ats place a code).2 a c1 c2) (.ret (.tup []))
      (spB m f (.sl 3 0 ats.length ats.length) code' :: ⟨a.stack.map iV, 1, c1, true⟩ :: ⟨a.slots.map iV, 1, c2, true⟩ :: ⟨(ats.map catC).set place [.s (.bool true), .sl 5 0 st'.length d1, .sl 6 0 sl'.length d2], 3, ats.length, true⟩ :: B4 :: ⟨st'.map iV, 1, d1, true⟩ :: ⟨sl'.map iV, 1, d2, true⟩ :: rest) := fun st' sl' d1 d2 code' B4 rest hlt e => by
    rw [e]
    refine Up.gcF (.tup []) [] [(3, place, 1), (3, place, 2)] [0, 1, 2, 3] (wH m f (ats.set place (some ⟨st', sl'⟩)) code' a c1 c2) (by simp) rfl ?_ rfl ⟨rfl, rfl⟩
    have n1 := nrs_map iV_nr st'
    have n2 := nrs_map iV_nr sl'
    have e2 := set_catC ats place ⟨st', sl'⟩
    simp only at e2
    simp [folds, foldC, foldK, rdC, rdB, refB, ownOf, elsB, wrH, wrB, wrE, wrL, shrinks, shr1, gcL, n1, n2, hlt, wH, spB]
    refine ⟨.inr rfl, ?_, ?_, .inl ⟨cat_nr _, by rw [e2, catB, List.length_set]⟩⟩
    all_goals first | exact .inl ⟨nrs_map iV_nr _, trivial⟩ | exact .inl (nrs_map iV_nr _) | exact .inr (rnB_iV2 _ _ _).symm
  have p0 : (0 : Int) ≤ place := by omega
  by_cases q1 : (f.code.length : Int) ≤ place
  · have e : toT ats place a code = (ats, badC code 7) := by
      have : ats[place]? = none := List.getElem?_eq_none (by omega)
      simp [toT, reachE, this]
    simp +contextual (maxSteps := 2000000) (disch := ((try unfold LIM at *); omega)) only [↓bcase_true, ↓bcase_false, WA, simprocAttr, wrap_i64, wH, wV, spB, List.length_map, q1]
    intro _
    refine CallThen.bad (m0 := m) (f := f) (code := code) _ _ rfl rfl rfl 1000 ?_
    simp +contextual (maxSteps := 2000000) (disch := ((try unfold LIM at *); omega)) only [↓bcase_true, ↓bcase_false, WA, simprocAttr, wrap_i64]
    exact fin _ _ _ e rfl
  have q2 : (place : Int) < ats.length := by omega
  have q3 : place < ats.length := by omega
  obtain ⟨o, ho⟩ := get_lt q2
  have hov : (ats.map catC)[place]? = some (catC o) := by rw [List.getElem?_map, ho]; rfl
  cases o with
  | none =>
    have e : toT ats place a code = (ats.set place (some a), code) := by simp [toT, reachE, ho]
    simp +contextual (maxSteps := 2000000) (disch := ((try unfold LIM at *); omega)) only [↓bcase_true, ↓bcase_false, WA, simprocAttr, wrap_i64, wH, wV, spB, catB, catC, List.length_map, q1, q2, p0, hov]
    intro _
    refine DrawThen.of 1000 [1, 2, 3] (.old 0 (.old 1 (.old 2 (.old 3 (.old 4 (.old 5 (.go 6 (.old 7 (.go 8 .done))))))))) (panFree_body _ _) (by kernel_rfl) (by kernel_rfl) (by kernel_rfl) ?_
    simp +contextual (maxSteps := 2000000) (disch := ((try unfold LIM at *); omega)) only [↓bcase_true, ↓bcase_false, WA, simprocAttr, wrap_i64, List.length_map, q2, p0, ho, Option.map_some, catC]
    refine DCall.of 1000 (.old 7 (.go 8 .done)) (by kernel_rfl) (CallsV.frameL (copy55 a c1 c2 hl (by omega) hc1 hc2) [1, 2] _ (by simp) ⟨.inl ⟨nrs_map iV_nr _, rfl⟩, .inl ⟨nrs_map iV_nr _, rfl⟩, trivial⟩ rfl) fun res h' ⟨r, h1, ⟨d1, d2, k1, k2, k3, k4⟩, k5, k6, k7⟩ => ?_
    subst k3; subst k4; subst k6; subst k7
    simp +contextual (maxSteps := 2000000) (disch := ((try unfold LIM at *); omega)) only [↓bcase_true, ↓bcase_false, WA, simprocAttr, wrap_i64, rnRes, iV_rn]
    try simp +contextual (maxSteps := 2000000) (disch := ((try unfold LIM at *); omega)) only [↓bcase_true, ↓bcase_false, WA, simprocAttr, wrap_i64, List.length_map, q2, p0, ho, Option.map_some, catC]
    repeat' apply And.intro
    all_goals
      exact finF a.stack a.slots d1 d2 code _ _ q3 e
  | some t =>
    have ht := hat t (List.mem_of_getElem? ho)
    have gset : ∀ x : List V, ((ats.map catC).set place x)[place]? = some x := fun x => List.getElem?_set_self (by rw [List.length_map]; exact q3)
    have hself : ats.set place (some ⟨t.stack, t.slots⟩) = ats := set_same ho
    have cp0 : (0 : Int) ≤ a.stack.length := by omega
    simp +contextual (maxSteps := 2000000) (disch := ((try unfold LIM at *); omega)) only [↓bcase_true, ↓bcase_false, WA, simprocAttr, wrap_i64, wH, wV, spB, catB, catC, List.length_map, q1, q2, p0, ho, Option.map_some, cellOk_l, Bool.false_and, gset, List.set_set]
    intro _ cap hcap cap2 hcap2
    refine ⟨fun q5 => ?_, fun q5 => ?_⟩
    · have e : toT ats place a code = (ats.set place (some ⟨t.stack, t.slots⟩), badC code 6) := by
        have : ¬ t.stack = a.stack := fun e => q5 (by rw [e])
        simp [toT, reachE, ho, this, hself]
      refine CallThen.bad (m0 := m) (f := f) (code := code) _ _ rfl rfl rfl 1000 ?_
      simp +contextual (maxSteps := 2000000) (disch := ((try unfold LIM at *); omega)) only [↓bcase_true, ↓bcase_false, WA, simprocAttr, wrap_i64]
      exact finF t.stack t.slots cap cap2 _ _ _ q3 e
    · have q5' : t.stack.length = a.stack.length := by omega
      have hmis : ∀ (j : Nat) (x y : Int), t.stack[j]? = some x → a.stack[j]? = some y → x ≠ y → toT ats place a code = (ats.set place (some ⟨t.stack, t.slots⟩), badC code 6) := fun j x y h1 h2 h3 => by
        have : ¬ t.stack = a.stack := fun e => h3 (by rw [e, h2] at h1; cases h1; rfl)
        simp [toT, reachE, ho, this, hself]
      refine LoopThen.ownF 4 (ι := Nat) (fun i => i ≤ a.stack.length ∧ t.stack.take i = a.stack.take i) (fun i => [(0, .ptr 0 0 0), (1, .s (.int .i64 place)), (5, .ptr 4 0 0), (6, .ptr 7 0 0), (7, .s (.int .i64 i))])
        (fun _ => toH m f ats code a c1 c2 place t cap cap2 t.slots)
        (fun i => a.stack.length - i) 1000 1000 ⟨0, ⟨Nat.zero_le _, rfl⟩, [], [0, 1, 2, 3, 4, 5, 6, 7], ⟨by simp, rfl⟩, toH_gc m f ats code a c1 c2 place t cap cap2 t.slots, by simp +contextual (maxSteps := 2000000) (disch := ((try unfold LIM at *); omega)) only [↓bcase_true, ↓bcase_false, WA, simprocAttr, wrap_i64, folds_length]⟩ ?_
      rintro i ⟨p1, p2⟩
      by_cases q6 : (i : Int) < a.stack.length
      · obtain ⟨y, hy⟩ := get_lt q6
        obtain ⟨x, hx⟩ := get_lt (l := t.stack) (i := i) (by omega)
        have pi : (0 : Int) ≤ i := by omega
        have q7 : (i : Int) < t.stack.length := by omega
        have g1 : (a.stack.map iV)[i]? = some (iV y) := by rw [List.getElem?_map, hy]; rfl
        have g2 : (t.stack.map iV)[i]? = some (iV x) := by rw [List.getElem?_map, hx]; rfl
        simp +contextual (maxSteps := 2000000) (disch := ((try unfold LIM at *); omega)) only [↓bcase_true, ↓bcase_false, WA, simprocAttr, wrap_i64, toH, List.length_map, q6]
        refine DrawThen.of 1000 [] (.old 0 (.old 1 (.old 2 (.old 3 (.old 4 (.old 5 (.old 6 (.old 7 (.old 8 (.old 9 (.old 10 .done))))))))))) (panFree_loopN (panFree_body _ _)) (by kernel_rfl) (by kernel_rfl) (by kernel_rfl) ?_
        by_cases q8 : x = y
        · subst q8
          simp +contextual (maxSteps := 2000000) (disch := ((try unfold LIM at *); omega)) only [↓bcase_true, ↓bcase_false, WA, simprocAttr, wrap_i64, List.length_map, q6, q7, pi, g1, g2, iV, cast_succ]
          refine ⟨i + 1, ⟨⟨by omega, ?_⟩, by omega⟩, [], [0, 1, 2, 3, 4, 5, 6, 7], ⟨by simp, rfl⟩, toH_gc m f ats code a c1 c2 place t cap cap2 t.slots, by simp +contextual (maxSteps := 2000000) (disch := ((try unfold LIM at *); omega)) only [↓bcase_true, ↓bcase_false, WA, simprocAttr, wrap_i64, folds_length]⟩
          rw [List.take_add_one, List.take_add_one, hx, hy, p2]
        · have q8' : ¬ y = x := fun e => q8 e.symm
          simp +contextual (maxSteps := 2000000) (disch := ((try unfold LIM at *); omega)) only [↓bcase_true, ↓bcase_false, WA, simprocAttr, wrap_i64, List.length_map, q6, q7, pi, g1, g2, iV, q8, q8']
          refine CallThen.bad (m0 := m) (f := f) (code := code) _ _ rfl rfl rfl 1000 ?_
          simp +contextual (maxSteps := 2000000) (disch := ((try unfold LIM at *); omega)) only [↓bcase_true, ↓bcase_false, WA, simprocAttr, wrap_i64]
          exact finF t.stack t.slots cap cap2 _ _ _ q3 (hmis i x y hx hy q8)
      · have e : i = a.stack.length := by omega
        subst e
        have hst : t.stack = a.stack := by rw [← q5', List.take_length, q5', List.take_length] at p2; exact p2
        have hreach : toT ats place a code = (ats.set place (some ⟨t.stack, joinS t.slots a.slots⟩), code) := by simp [toT, reachE, ho, hst]
        simp +contextual (maxSteps := 2000000) (disch := ((try unfold LIM at *); omega)) only [↓bcase_true, ↓bcase_false, WA, simprocAttr, wrap_i64, toH, List.length_map, q6]
        refine LoopThen.ownF 4 (ι := Nat) (fun i => i ≤ n) (fun i => [(0, .ptr 0 0 0), (1, .s (.int .i64 place)), (5, .ptr 4 0 0), (6, .ptr 7 0 0), (8, .s (.int .i64 i))])
          (fun i => toH m f ats code a c1 c2 place t cap cap2 (joinN i t.slots a.slots))
          (fun i => n - i) 1000 1000 ⟨0, Nat.zero_le _, [], [0, 1, 2, 3, 4, 5, 6, 7], ⟨by simp, rfl⟩, by
            have j0 : joinN 0 t.slots a.slots = t.slots := by simp [joinN, joinS]
            show gcL (nm [0, 1, 2, 3, 4, 5, 6, 7] 8) (toH m f ats code a c1 c2 place t cap cap2 t.slots) [0, 1, 2, 3, 4, 5, 6, 7] (toH m f ats code a c1 c2 place t cap cap2 (joinN 0 t.slots a.slots))
            rw [j0]
            exact toH_gc m f ats code a c1 c2 place t cap cap2 t.slots, by simp +contextual (maxSteps := 2000000) (disch := ((try unfold LIM at *); omega)) only [↓bcase_true, ↓bcase_false, WA, simprocAttr, wrap_i64, folds_length]⟩ ?_
        rintro i p1
        by_cases q6 : (i : Int) < a.slots.length
        · obtain ⟨y, hy⟩ := get_lt q6
          obtain ⟨x, hx⟩ := get_lt (l := t.slots) (i := i) (by omega)
          have pi : (0 : Int) ≤ i := by omega
          have hjl := joinN_len (i := i) (p := t.slots) (q := a.slots)
          have q7 : (i : Int) < t.slots.length := by omega
          have q7' : (i : Int) < (joinN i t.slots a.slots).length := by omega
          have g1 : (a.slots.map iV)[i]? = some (iV y) := by rw [List.getElem?_map, hy]; rfl
          have g2 : ((joinN i t.slots a.slots).map iV)[i]? = some (iV x) := by rw [List.getElem?_map, joinN_get (by omega), hx]; rfl
          have g3 := joinN_succ hx hy
          simp +contextual (maxSteps := 2000000) (disch := ((try unfold LIM at *); omega)) only [↓bcase_true, ↓bcase_false, WA, simprocAttr, wrap_i64, toH, List.length_map, q6]
          refine DrawThen.of 1000 [] (.old 0 (.old 1 (.old 2 (.old 3 (.old 4 (.old 5 (.old 6 (.old 7 (.old 8 (.old 9 (.old 10 .done))))))))))) (panFree_loopN (panFree_body _ _)) (by kernel_rfl) (by kernel_rfl) (by kernel_rfl) ?_
          by_cases q8 : x = y
          · subst q8
            rw [if_pos rfl, set_same (by rw [joinN_get (by omega), hx])] at g3
            simp +contextual (maxSteps := 2000000) (disch := ((try unfold LIM at *); omega)) only [↓bcase_true, ↓bcase_false, WA, simprocAttr, wrap_i64, List.length_map, q6, q7, q7', hjl, pi, g1, g2, iV, cast_succ]
            refine ⟨i + 1, ⟨by omega, by omega⟩, [], [0, 1, 2, 3, 4, 5, 6, 7], ⟨by simp, rfl⟩, ?_, by simp +contextual (maxSteps := 2000000) (disch := ((try unfold LIM at *); omega)) only [↓bcase_true, ↓bcase_false, WA, simprocAttr, wrap_i64, folds_length]⟩
            show gcL (nm [0, 1, 2, 3, 4, 5, 6, 7] 8) (toH m f ats code a c1 c2 place t cap cap2 (joinN i t.slots a.slots)) [0, 1, 2, 3, 4, 5, 6, 7] (toH m f ats code a c1 c2 place t cap cap2 (joinN (i + 1) t.slots a.slots))
            rw [g3]
            exact toH_gc m f ats code a c1 c2 place t cap cap2 _
          · have q8' : ¬ y = x := fun e => q8 e.symm
            rw [if_neg q8] at g3
            have e6 : ((joinN i t.slots a.slots).map iV).set i [V.s (.int .i64 0)] = (joinN (i + 1) t.slots a.slots).map iV := by rw [g3, List.map_set]; rfl
            simp +contextual (maxSteps := 2000000) (disch := ((try unfold LIM at *); omega)) only [↓bcase_true, ↓bcase_false, WA, simprocAttr, wrap_i64, spB, List.length_map, q6, q7, q7', hjl, pi, g1, g2, iV, q8, q8', gset, p0, q2, e6, cast_succ]
            exact ⟨i + 1, ⟨by omega, by omega⟩, [], [0, 1, 2, 3, 4, 5, 6, 7], ⟨by simp, rfl⟩, toH_gc m f ats code a c1 c2 place t cap cap2 _, by simp +contextual (maxSteps := 2000000) (disch := ((try unfold LIM at *); omega)) only [↓bcase_true, ↓bcase_false, WA, simprocAttr, wrap_i64, folds_length]⟩
        · have e : i = n := by omega
          subst e
          simp +contextual (maxSteps := 2000000) (disch := ((try unfold LIM at *); omega)) only [↓bcase_true, ↓bcase_false, WA, simprocAttr, wrap_i64, toH, List.length_map, q6]
          have ej := joinS_take_all (p := t.slots) (q := a.slots) (by omega)
          have el : t.slots.length = (joinN i t.slots a.slots).length := joinN_len.symm
          have en : i = t.slots.length := by omega
          rw [el]
          exact finF t.stack (joinN i t.slots a.slots) cap cap2 _ _ _ q3 (by rw [en, ej]; exact hreach)
end Go.Proofs.YtijefmjfdhfjmaaDoor
/- part S21 -/
set_option linter.unusedVariables false
set_option linter.unusedSimpArgs false
set_option maxRecDepth 100000
namespace Go.Proofs.YtijefmjfdhfjmaaDoor
open Go Go.W Go.RowKit
/-! ### The document's turns are the verifier's -/
theorem popT_ok {st st' sl : List Int} {k : Int} (h : popE st k = .ok st') : popT ⟨st, sl⟩ 0 k = (⟨st', sl⟩, 0) := by
  unfold popE at h
  split at h
  · cases h
  · rename_i h0
    split at h
    · cases h
    · rename_i h1
      cases h
      have : ¬ (0 < k ∧ st.getLast? ≠ some k) := fun ⟨p, q⟩ => h1 ⟨by omega, q⟩
      simp [popT, h0, this]
theorem popT_er {st sl : List Int} {k c : Int} (hk : 0 ≤ k) (h : popE st k = .error c) : (popT ⟨st, sl⟩ 0 k).2 = c := by
  unfold popE at h
  split at h
  · rename_i h0; cases h; simp [popT, h0, badC]
  · rename_i h0
    split at h
    · rename_i h1; cases h
      have : 0 < k ∧ st.getLast? ≠ some k := ⟨by omega, h1.2⟩
      simp [popT, h0, this, badC]
    · cases h
theorem popsT_ok {sl : List Int} : ∀ {ks st st' : List Int}, popsE st ks = .ok st' → popsT ⟨st, sl⟩ 0 ks = (⟨st', sl⟩, 0)
  | [], st, st', h => by simp only [popsE] at h; cases h; rfl
  | k :: ks, st, st', h => by
    simp only [popsE] at h
    split at h
    · rename_i s1 h1
      simp only [popsT, if_true, popT_ok h1]
      exact popsT_ok h
    · cases h
theorem popsT_er {sl : List Int} : ∀ {ks st : List Int} {c : Int}, (∀ k ∈ ks, 0 ≤ k) → popsE st ks = .error c → (popsT ⟨st, sl⟩ 0 ks).2 = c
  | [], st, c, _, h => by simp only [popsE] at h; cases h
  | k :: ks, st, c, hk, h => by
    simp only [popsE] at h
    split at h
    · rename_i s1 h1
      simp only [popsT, if_true, popT_ok h1]
      exact popsT_er (fun k' h' => hk k' (by simp [h'])) h
    · rename_i e h1
      cases h
      have h2 := popT_er (sl := sl) (hk k (by simp)) h1
      simp only [popsT, if_true]
      rw [popsT_nz (by rw [h2]; exact popE_nz h1)]
      exact h2
theorem pushT_ok {st st' sl : List Int} {k : Int} (h : pushE st k = .ok st') : pushT ⟨st, sl⟩ 0 k = (⟨st', sl⟩, 0) := by
  unfold pushE at h
  split at h
  · cases h
  · rename_i h0; cases h; simp [pushT, h0]
theorem pushT_er {st sl : List Int} {k c : Int} (h : pushE st k = .error c) : (pushT ⟨st, sl⟩ 0 k).2 = c := by
  unfold pushE at h
  split at h
  · rename_i h0; cases h; simp [pushT, h0, badC]
  · cases h
theorem pushT_nz {a : At} {code k : Int} (h : code ≠ 0) : (pushT a code k).2 = code := by
  unfold pushT
  split
  · simp [badC, h]
  · rfl
/-- Behind an instruction: what is known, or a fault. -/
def AgreeT (q : At × Int) (e : Except Int At) : Prop := match e with
  | .ok a => q = (a, 0)
  | .error c => q.2 = c
def putE (sl : List Int) (st : Except Int (List Int)) (k : Int) : Except Int At := match st with
  | .ok st => match pushE st k with
    | .ok st' => .ok ⟨st', sl⟩
    | .error e => .error e
  | .error e => .error e
theorem agree_pp {st sl ks : List Int} {k : Int} (hk : ∀ x ∈ ks, 0 ≤ x) : AgreeT (ppT ⟨st, sl⟩ 0 ks k) (putE sl (popsE st ks.reverse) k) := by
  unfold ppT putE
  cases h : popsE st ks.reverse with
  | ok s1 =>
    rw [popsT_ok h]
    simp only
    cases h2 : pushE s1 k with
    | ok s2 => exact pushT_ok h2
    | error c => exact pushT_er h2
  | error c =>
    have h2 := popsT_er (sl := sl) (fun x hx => hk x (List.mem_reverse.1 hx)) h
    show (pushT _ _ k).2 = c
    rw [h2, pushT_nz (popsE_nz h)]
theorem agree_push {st sl : List Int} {k : Int} : AgreeT (pushT ⟨st, sl⟩ 0 k) (putE sl (.ok st) k) := by
  unfold putE
  simp only
  cases h2 : pushE st k with
  | ok s2 => exact pushT_ok h2
  | error c => exact pushT_er h2
theorem typ_pos {t : Int} (h : typB t = true) : 0 ≤ t := by
  simp only [typB, rangeB, Bool.and_eq_true, decide_eq_true_eq] at h; omega
theorem agree1 {fs : List IFun} {now : At} {x : Ins} (h : x.op = 1 ∨ x.op = 2) : AgreeT (pushT now 0 x.op) (turnE fs x now) := by
  have e : turnE fs x now = putE now.slots (.ok now.stack) x.op := by
    rcases h with h | h <;> simp only [turnE, h] <;> rfl
  rw [e]; exact agree_push
theorem agree3 {fs : List IFun} {now : At} {x : Ins} {s : Nat} {v : Int} (h : x.op = 3) (ha : x.a = s) (hs : now.slots[s]? = some v) : AgreeT (loadT now 0 v) (turnE fs x now) := by
  have e : turnE fs x now = if v = 0 then .error 5 else putE now.slots (.ok now.stack) v := by
    simp only [turnE, h, ha, Int.toNat_natCast, hs, Option.getD_some]; rfl
  rw [e]
  by_cases c : v = 0
  · rw [if_pos c]
    show (loadT now 0 v).2 = 5
    unfold loadT
    rw [if_pos c, pushT_nz (by decide)]; rfl
  · rw [if_neg c]
    unfold loadT
    rw [if_neg c]; exact agree_push
theorem agree4 {fs : List IFun} {now : At} {x : Ins} {s : Nat} (h : x.op = 4) (ha : x.a = s) : AgreeT (keepT now 0 s) (turnE fs x now) := by
  have e : turnE fs x now = match popE now.stack 0 with
    | .ok st => .ok ⟨st, now.slots.set s (now.stack.getLast?.getD 0)⟩
    | .error e => .error e := by
    simp only [turnE, h, ha, Int.toNat_natCast]; rfl
  rw [e]
  unfold keepT
  by_cases c : now.stack.length = 0
  · rw [if_pos c]
    have : popE now.stack 0 = .error 4 := by simp [popE, c]
    rw [this]; rfl
  · rw [if_neg c]
    cases h2 : popE now.stack 0 with
    | ok st => exact popT_ok h2
    | error e => exact popT_er (Int.le_refl 0) h2
theorem agree7 {fs : List IFun} {now : At} {x : Ins} (h : x.op = 7) : AgreeT (popT now 0 2) (turnE fs x now) := by
  have e : turnE fs x now = match popE now.stack 2 with
    | .ok st => .ok ⟨st, now.slots⟩
    | .error e => .error e := by
    simp only [turnE, h]; rfl
  rw [e]
  cases h2 : popE now.stack 2 with
  | ok st => exact popT_ok h2
  | error e => exact popT_er (by decide) h2
theorem primT_pos (n : Nat) (h : n < 14) : ∀ x ∈ (primT n).1, 0 ≤ x := by
  revert h; revert n
  have : ∀ n : Fin 14, ∀ x ∈ (primT n).1, 0 ≤ x := by decide
  exact fun n h => this ⟨n, h⟩
theorem agree5 {fs : List IFun} {now : At} {x : Ins} {n : Nat} (h : x.op = 5) (ha : x.a = n + 1) (hn : n < 14) : AgreeT (ppT now 0 (primT n).1 (primT n).2) (turnE fs x now) := by
  have e : turnE fs x now = putE now.slots (popsE now.stack (primT n).1.reverse) (primT n).2 := by
    have : (x.a - 1).toNat = n := by omega
    simp only [turnE, h, this]; rfl
  rw [e]; exact agree_pp (primT_pos n hn)
theorem agree10 {fs : List IFun} {now : At} {x : Ins} {n : Nat} (h : x.op = 10) (ha : x.a = n) : AgreeT (ppT now 0 (List.replicate n 1) 3) (turnE fs x now) := by
  have e : turnE fs x now = putE now.slots (popsE now.stack (List.replicate n 1).reverse) 3 := by
    rw [List.reverse_replicate]
    simp only [turnE, h, ha, Int.toNat_natCast]; rfl
  rw [e]; exact agree_pp (fun x hx => by rw [(List.mem_replicate.1 hx).2]; decide)
theorem agree8 {fs : List IFun} {now : At} {x : Ins} {n : Nat} {g : IFun} (h : x.op = 8) (ha : x.a = n) (hg : fs[n]? = some g) (hk : g.args.all typB = true) : AgreeT (ppT now 0 g.args g.typ) (turnE fs x now) := by
  have e : turnE fs x now = putE now.slots (popsE now.stack g.args.reverse) g.typ := by
    simp only [turnE, h, ha, Int.toNat_natCast, hg, Option.map_some, Option.getD_some]; rfl
  rw [e]; exact agree_pp (fun x hx => typ_pos (List.all_eq_true.1 hk x hx))
theorem toT_len (ats : Ats) (p : Nat) (a : At) (code : Int) : (toT ats p a code).1.length = ats.length := by
  unfold toT
  cases h : reachE ats p a with
  | ok ats' => exact reachE_len h
  | error c => rfl
section
variable {N n0 : Nat} {Q : QT} {k : List It} {τ : Tau} {h : H} {d : Option Nat}
theorem CallThen.to {m0 : Img} {f : IFun} {ats : Ats} {a : At} {code : Int} {place c1 c2 n : Nat} (hl : a.stack.length ≤ 1000) (hn : a.slots.length = n) (hn2 : n ≤ 1000) (hc1 : a.stack.length ≤ c1) (hc2 : a.slots.length ≤ c2) (hats : ats.length = f.code.length) (hat : AtsOk n ats) (hfl : f.code.length ≤ 1000)
    (bs : List Nat) {args' : List V} (hb : bs.Nodup) (hg : gcL (emb bs h.length) h bs (wH m0 f ats code a c1 c2)) (ha : args' = [.ptr (emb bs h.length 0) 0 0, .s (.int .i64 place), .agg [.s (.bool true), .sl (emb bs h.length 1) 0 a.stack.length c1, .sl (emb bs h.length 2) 0 a.slots.length c2]]) (m : Nat)
    (hr : Run C N n0 m Q k (upo d (.tup []) τ) (setAll h bs [spB m0 f (.sl (emb bs h.length 3) 0 ats.length ats.length) (toT ats place a code).2, ⟨a.stack.map iV, 1, c1, true⟩, ⟨a.slots.map iV, 1, c2, true⟩, catB (toT ats place a code).1])) : CallThen C N n0 Q 58 args' d k τ h := by
  subst ha
  refine CallThen.of m (CallsV.frameL (edit58 m0 f ats a code place c1 c2 n hl hn hn2 hc1 hc2 hats hat hfl) bs h hb hg rfl) fun res h' ⟨r, h1, ⟨k1, k2⟩, k5, k6, k7⟩ => ?_
  subst k1; subst k2; subst k6; subst k7
  have e : (wH m0 f (toT ats place a code).1 (toT ats place a code).2 a c1 c2).map (rnB (emb bs h.length)) = [spB m0 f (.sl (emb bs h.length 3) 0 ats.length ats.length) (toT ats place a code).2, ⟨a.stack.map iV, 1, c1, true⟩, ⟨a.slots.map iV, 1, c2, true⟩, catB (toT ats place a code).1] := by
    simp only [wH, List.map_cons, List.map_nil, rnB_sp, rnB_cat, rnB_iV2, toT_len]
  rw [e]
  exact hr
theorem CallThen.back {m0 : Img} {f : IFun} {ats : Ats} {a : At} {code : Int} {c1 c2 : Nat} (hl : a.stack.length ≤ 1000)
    (bs : List Nat) {args' : List V} (hb : bs.Nodup) (hg : gcL (emb bs h.length) h bs (wH m0 f ats code a c1 c2)) (ha : args' = [.ptr (emb bs h.length 0) 0 0, .agg [.s (.bool true), .sl (emb bs h.length 1) 0 a.stack.length c1, .sl (emb bs h.length 2) 0 a.slots.length c2]]) (m : Nat)
    (hr : Run C N n0 m Q k (upo d (.tup []) τ) (setAll h bs [spB m0 f (.sl (emb bs h.length 3) 0 ats.length ats.length) (backT f a code), ⟨a.stack.map iV, 1, c1, true⟩, ⟨a.slots.map iV, 1, c2, true⟩, catB ats])) : CallThen C N n0 Q 57 args' d k τ h := by
  subst ha
  refine CallThen.of m (CallsV.frameL (edit57 m0 f ats a code c1 c2 hl) bs h hb hg rfl) fun res h' ⟨r, h1, ⟨k1, k2⟩, k5, k6, k7⟩ => ?_
  subst k1; subst k2; subst k6; subst k7
  have e : (wH m0 f ats (backT f a code) a c1 c2).map (rnB (emb bs h.length)) = [spB m0 f (.sl (emb bs h.length 3) 0 ats.length ats.length) (backT f a code), ⟨a.stack.map iV, 1, c1, true⟩, ⟨a.slots.map iV, 1, c2, true⟩, catB ats] := by
    simp only [wH, List.map_cons, List.map_nil, rnB_sp, rnB_cat, rnB_iV2]
  rw [e]
  exact hr
end
/-! ### An instruction -/
def stepR (m : Img) (f : IFun) (ats : Ats) (k : Nat) (x : Ins) (res : Res) (h' : H) : Prop := res = .ret (.tup []) ∧ match ats[k]? with
  | some (some a) => (match lookE m.funs f k x ats a with
    | .ok ats' => h' = [spB m f (.sl 1 0 ats.length ats.length) 0, catB ats']
    | .error c => ∃ ats', h' = [spB m f (.sl 1 0 ats.length ats.length) c, catB ats'])
  | _ => h' = [spB m f (.sl 1 0 ats.length ats.length) 7, catB ats]
theorem look_to {m : Img} {f : IFun} {ats : Ats} {k : Nat} {x : Ins} {a b : At} {p : Nat} (ho : ats[k]? = some (some a)) (hq : lookE m.funs f k x ats a = reachE ats p b) :
    stepR m f ats k x (.ret (.tup [])) [spB m f (.sl 1 0 ats.length ats.length) (toT ats p b 0).2, catB (toT ats p b 0).1] := by
  refine ⟨rfl, ?_⟩
  simp only [ho, hq]
  unfold toT
  cases h : reachE ats p b with
  | ok ats' => rfl
  | error c => exact ⟨ats, rfl⟩
theorem edit35 (m : Img) (f : IFun) (ats : Ats) (k n : Nat) (x : Ins) (hx : f.code[k]? = some x) (hxb : insB x = true) (hn : f.slots = n) (hn2 : n ≤ 1000) (hats : ats.length = f.code.length) (hok : AtsOk n ats) (hfl : f.code.length ≤ 460)
    (hm : ∀ g ∈ m.funs, g.args.all typB = true ∧ g.args.length ≤ 4) : CallsV C 35 [.ptr 0 0 0, .s (.int .i64 k)] [spB m f (.sl 1 0 ats.length ats.length) 0, catB ats] (stepR m f ats k x) := by
  refine calls_of_run Tryd.func35 rfl (by kernel_rfl) (by kernel_rfl) (by simp) 1000 ?_
  have p0 : (0 : Int) ≤ k := by omega
  have q3 : k < ats.length := by have := (List.getElem?_eq_some_iff.1 hx).1; omega
  have q2 : (k : Int) < ats.length := by omega
  obtain ⟨o, ho⟩ := get_lt q2
  have hov : (ats.map catC)[k]? = some (catC o) := by rw [List.getElem?_map, ho]; rfl
  cases o with
  | none =>
    simp +contextual (maxSteps := 2000000) (disch := ((try unfold LIM at *); omega)) only [↓bcase_true, ↓bcase_false, WA, simprocAttr, wrap_i64, spB, catB, catC, List.length_map, q2, p0, ho, Option.map_some]
    refine CallThen.bad (m0 := m) (f := f) (code := 0) _ _ rfl rfl rfl 1000 ?_
    simp +contextual (maxSteps := 2000000) (disch := ((try unfold LIM at *); omega)) only [↓bcase_true, ↓bcase_false, WA, simprocAttr, wrap_i64]
    exact Up.gcF (.tup []) [] [] [0, 1] [spB m f (.sl 1 0 ats.length ats.length) 7, catB ats] (by simp) rfl ⟨.inr rfl, .inl ⟨cat_nr _, rfl⟩, trivial⟩ rfl ⟨rfl, by rw [ho]⟩
  | some a =>
    have ha := hok a (List.mem_of_getElem? ho)
    have gset : ∀ x : List V, ((ats.map catC).set k x)[k]? = some x := fun x => List.getElem?_set_self (by rw [List.length_map]; exact q3)
    simp +contextual (maxSteps := 2000000) (disch := ((try unfold LIM at *); omega)) only [↓bcase_true, ↓bcase_false, WA, simprocAttr, wrap_i64, spB, catB, catC, List.length_map, q2, p0, ho, Option.map_some, cellOk_l, Bool.false_and, gset, List.set_set]
    intro cap hcap cap2 hcap2
    refine CallThen.of 1000 (CallsV.frameL (copy55 a cap cap2 (by omega) (by omega) hcap hcap2) [2, 3] _ (by simp) ⟨.inl ⟨nrs_map iV_nr _, rfl⟩, .inl ⟨nrs_map iV_nr _, rfl⟩, trivial⟩ rfl) fun res h' ⟨r, h1, ⟨d1, d2, k1, k2, k3, k4⟩, k5, k6, k7⟩ => ?_
    subst k3; subst k4; subst k6; subst k7
    have hkf : (k : Int) < f.code.length := by omega
    have hxv : (f.code.map insV)[k]? = some (insV x) := by rw [List.getElem?_map, hx]; rfl
    simp +contextual (maxSteps := 2000000) (disch := ((try unfold LIM at *); omega)) only [↓bcase_true, ↓bcase_false, WA, simprocAttr, wrap_i64, rnRes, iV_rn, spB, List.length_map, hkf, p0, hxv, insV]
    have fin : ∀ ats' code' rest, stepR m f ats k x (.ret (.tup [])) [spB m f (.sl 1 0 ats.length ats.length) code', catB ats'] → Up 2 (stepR m f ats k x) (.ret (.tup [])) (spB m f (.sl 1 0 ats.length ats.length) code' :: catB ats' :: rest) := fun ats' code' rest hr =>
      Up.gcF (.tup []) [] [] [0, 1] [spB m f (.sl 1 0 ats.length ats.length) code', catB ats'] (by simp) rfl ⟨.inr rfl, .inl ⟨cat_nr _, rfl⟩, trivial⟩ rfl hr
    have e2 := set_catC ats k a
    have hself : ats.set k (some a) = ats := set_same ho
    rw [hself] at e2
    refine CallThen.ofF [(1, k, 1), (1, k, 2)] [spB m f (.sl 1 0 ats.length ats.length) 0, catB ats, .dead, .dead, ⟨a.stack.map iV, 1, d1, true⟩, ⟨a.slots.map iV, 1, d2, true⟩, ⟨[[.s (.bool true), .sl 4 0 a.stack.length d1, .sl 5 0 a.slots.length d2]], 3, 1, true⟩, ⟨[insV x], 2, 1, true⟩] ?_ 1000
      (CallsV.frameL (edit56 m f ats 0 k x) [0, 1] _ (by simp) ⟨.inr rfl, .inl ⟨cat_nr _, rfl⟩, trivial⟩ rfl) fun res h' ⟨r, h1, ⟨k1, k2⟩, k5, k6, k7⟩ => ?_
    · have n1 := nrs_map iV_nr a.stack
      have n2 := nrs_map iV_nr a.slots
      simp [folds, foldC, foldK, rdC, rdB, refB, ownOf, elsB, wrH, wrB, wrE, wrL, shrinks, shr1, gcL, n1, n2, q3, spB, catB, e2, insV]
    subst k1; subst k2; subst k6; subst k7
    cases hform : formB m.funs.length f.slots k x
    · have el : lookE m.funs f k x ats a = .error 3 := by simp [lookE, hform]
      simp +contextual (maxSteps := 2000000) (disch := ((try unfold LIM at *); omega)) only [↓bcase_true, ↓bcase_false, WA, simprocAttr, wrap_i64, rnRes, rnB_sp, rnB_cat]
      refine CallThen.bad (m0 := m) (f := f) (code := 0) _ _ rfl rfl rfl 1000 ?_
      simp +contextual (maxSteps := 2000000) (disch := ((try unfold LIM at *); omega)) only [↓bcase_true, ↓bcase_false, WA, simprocAttr, wrap_i64]
      exact fin ats 3 _ ⟨rfl, by simp only [ho, el]; exact ⟨ats, rfl⟩⟩
    have d1h : a.stack.length ≤ d1 := by assumption
    have d2h : a.slots.length ≤ d2 := by assumption
    have eF : emb [0, 4, 5, 1] 8 3 = 1 := rfl
    by_cases o9 : x.op = 9
    · simp +contextual (maxSteps := 2000000) (disch := ((try unfold LIM at *); omega)) only [↓bcase_true, ↓bcase_false, WA, simprocAttr, wrap_i64, rnRes, rnB_sp, rnB_cat, insV, o9]
      refine CallThen.back (m0 := m) (f := f) (code := 0) (by omega) [0, 4, 5, 1] (by simp) ⟨.inr rfl, .inl ⟨nrs_map iV_nr _, rfl⟩, .inl ⟨nrs_map iV_nr _, rfl⟩, .inl ⟨cat_nr _, rfl⟩, trivial⟩ rfl 1000 ?_
      simp +contextual (maxSteps := 2000000) (disch := ((try unfold LIM at *); omega)) only [↓bcase_true, ↓bcase_false, WA, simprocAttr, wrap_i64]
      refine fin _ _ _ ⟨rfl, ?_⟩
      simp only [ho]
      cases hb : backE a.stack f.typ with
      | ok u =>
        have el : lookE m.funs f k x ats a = .ok ats := by simp [lookE, hform, o9, hb]
        rw [el]; simp only [backT, hb]
      | error c =>
        have el : lookE m.funs f k x ats a = .error c := by simp [lookE, hform, o9, hb]
        rw [el]; simp only [backT, hb]
        exact ⟨ats, rfl⟩
    by_cases o6 : x.op = 6
    · obtain ⟨p, hp1, hp2⟩ : ∃ p : Nat, x.a = p ∧ p ≤ 1000 := by
        have : rangeB x.a 0 1000 = true := by simpa [insB, o6, rangeB] using hxb
        simp only [rangeB, Bool.and_eq_true, decide_eq_true_eq] at this
        exact ⟨x.a.toNat, by omega, by omega⟩
      have el : lookE m.funs f k x ats a = reachE ats p a := by simp [lookE, hform, o6, turnE, hp1]
      simp +contextual (maxSteps := 2000000) (disch := ((try unfold LIM at *); omega)) only [↓bcase_true, ↓bcase_false, WA, simprocAttr, wrap_i64, rnRes, rnB_sp, rnB_cat, insV, o6, hp1]
      refine CallThen.to (m0 := m) (f := f) (code := 0) (place := p) (by omega) ha.1 hn2 d1h d2h hats hok (by omega) [0, 4, 5, 1] (by simp) ⟨.inr rfl, .inl ⟨nrs_map iV_nr _, rfl⟩, .inl ⟨nrs_map iV_nr _, rfl⟩, .inl ⟨cat_nr _, rfl⟩, trivial⟩ rfl 1000 ?_
      simp +contextual (maxSteps := 2000000) (disch := ((try unfold LIM at *); omega)) only [↓bcase_true, ↓bcase_false, WA, simprocAttr, wrap_i64]
      exact fin _ _ _ (look_to ho el)
    by_cases o7 : x.op = 7
    · obtain ⟨p, hp1, hp2⟩ : ∃ p : Nat, x.a = p ∧ p ≤ 1000 := by
        have : rangeB x.a 0 1000 = true := by simpa [insB, o7, rangeB] using hxb
        simp only [rangeB, Bool.and_eq_true, decide_eq_true_eq] at this
        exact ⟨x.a.toNat, by omega, by omega⟩
      have ag := agree7 (fs := m.funs) (now := a) o7
      simp +contextual (maxSteps := 2000000) (disch := ((try unfold LIM at *); omega)) only [↓bcase_true, ↓bcase_false, WA, simprocAttr, wrap_i64, rnRes, rnB_sp, rnB_cat, insV, o7, hp1]
      refine CallThen.turn (edit59 m f ats a 0 2 (by omega)) d1 d2 d1h d2h [0, 4, 5, 1] (by simp) ⟨.inr rfl, .inl ⟨nrs_map iV_nr _, rfl⟩, .inl ⟨nrs_map iV_nr _, rfl⟩, .inl ⟨cat_nr _, rfl⟩, trivial⟩ rfl 1000 ?_
      intro c3 c4 hc3 hc4
      generalize popT a 0 2 = qq at *
      obtain ⟨b, cd⟩ := qq
      simp only at hc3 hc4
      simp +contextual (maxSteps := 2000000) (disch := ((try unfold LIM at *); omega)) only [↓bcase_true, ↓bcase_false, WA, simprocAttr, wrap_i64]
      cases he : turnE m.funs x a with
      | error c =>
        rw [he] at ag
        have ag : cd = c := ag
        subst ag
        have nz : ¬ cd = 0 := turnE_nz he
        have el : lookE m.funs f k x ats a = .error cd := by simp [lookE, hform, he, o7]
        simp +contextual (maxSteps := 2000000) (disch := ((try unfold LIM at *); omega)) only [↓bcase_true, ↓bcase_false, WA, simprocAttr, wrap_i64, spB, nz]
        exact fin ats cd _ ⟨rfl, by simp only [ho, el]; exact ⟨ats, rfl⟩⟩
      | ok now =>
        rw [he] at ag
        have ag : (b, cd) = (now, 0) := ag
        cases ag
        have hok2 := turnE_ok ha he
        simp +contextual (maxSteps := 2000000) (disch := ((try unfold LIM at *); omega)) only [↓bcase_true, ↓bcase_false, WA, simprocAttr, wrap_i64, spB, hp1]
        refine CallThen.to (m0 := m) (f := f) (code := 0) (place := p) (by omega) hok2.1 hn2 hc3 hc4 hats hok (by omega) [0, 8, 9, 1] (by simp) ⟨.inr rfl, .inl ⟨nrs_map iV_nr _, rfl⟩, .inl ⟨nrs_map iV_nr _, rfl⟩, .inl ⟨cat_nr _, rfl⟩, trivial⟩ rfl 1000 ?_
        cases hr : reachE ats p b with
        | error c =>
          have nz : ¬ c = 0 := reachE_nz hr
          have et : toT ats p b 0 = (ats, c) := by simp [toT, hr, badC]
          have el : lookE m.funs f k x ats a = .error c := by simp [lookE, hform, he, o7, hp1, hr]
          rw [et]
          simp +contextual (maxSteps := 2000000) (disch := ((try unfold LIM at *); omega)) only [↓bcase_true, ↓bcase_false, WA, simprocAttr, wrap_i64, spB, nz]
          exact fin ats c _ ⟨rfl, by simp only [ho, el]; exact ⟨ats, rfl⟩⟩
        | ok ats1 =>
          have et : toT ats p b 0 = (ats1, 0) := by simp [toT, hr]
          have el : lookE m.funs f k x ats a = reachE ats1 (k + 1) b := by simp [lookE, hform, he, o7, hp1, hr]
          have hlen : ats1.length = ats.length := reachE_len hr
          have hok1 := reachE_ok hok hok2 hr
          rw [et, ← hlen]
          simp +contextual (maxSteps := 2000000) (disch := ((try unfold LIM at *); omega)) only [↓bcase_true, ↓bcase_false, WA, simprocAttr, wrap_i64, spB, cast_succ]
          refine CallThen.to (m0 := m) (f := f) (ats := ats1) (code := 0) (place := k + 1) (by omega) hok2.1 hn2 hc3 hc4 (hlen.trans hats) hok1 (by omega) [0, 8, 9, 1] (by simp) ⟨.inr rfl, .inl ⟨nrs_map iV_nr _, rfl⟩, .inl ⟨nrs_map iV_nr _, rfl⟩, .inl ⟨cat_nr _, rfl⟩, trivial⟩ rfl 1000 ?_
          simp +contextual (maxSteps := 2000000) (disch := ((try unfold LIM at *); omega)) only [↓bcase_true, ↓bcase_false, WA, simprocAttr, wrap_i64]
          rw [hlen]
          refine fin _ _ _ ⟨rfl, ?_⟩
          simp only [ho, el]
          unfold toT
          cases h : reachE ats1 (k + 1) b with
          | ok ats' => rfl
          | error c => exact ⟨ats1, rfl⟩
    by_cases o3 : x.op = 3
    · obtain ⟨s, hs1, hs2⟩ : ∃ s : Nat, x.a = s ∧ s < n := by
        have h1 : x.a < f.slots := by simpa [formB, o3] using hform
        have h2 : 0 ≤ x.a := by
          have : rangeB x.a 0 1000 = true := by simpa [insB, o3, rangeB] using hxb
          simp only [rangeB, Bool.and_eq_true, decide_eq_true_eq] at this; omega
        exact ⟨x.a.toNat, by omega, by omega⟩
      obtain ⟨v, hv⟩ : ∃ v, a.slots[s]? = some v := ⟨a.slots[s], List.getElem?_eq_getElem (by omega)⟩
      have ag := agree3 (fs := m.funs) o3 hs1 hv
      simp +contextual (maxSteps := 2000000) (disch := ((try unfold LIM at *); omega)) only [↓bcase_true, ↓bcase_false, WA, simprocAttr, wrap_i64, rnRes, rnB_sp, rnB_cat, insV, o3, hs1]
      refine CallThen.turn (edit60 m f ats a 0 s v (by omega) hv (by omega)) d1 d2 d1h d2h [0, 4, 5, 1] (by simp) ⟨.inr rfl, .inl ⟨nrs_map iV_nr _, rfl⟩, .inl ⟨nrs_map iV_nr _, rfl⟩, .inl ⟨cat_nr _, rfl⟩, trivial⟩ rfl 1000 ?_
      intro c3 c4 hc3 hc4
      generalize loadT a 0 v = qq at *
      obtain ⟨b, cd⟩ := qq
      simp only at hc3 hc4
      simp +contextual (maxSteps := 2000000) (disch := ((try unfold LIM at *); omega)) only [↓bcase_true, ↓bcase_false, WA, simprocAttr, wrap_i64]
      cases he : turnE m.funs x a with
      | error c =>
        rw [he] at ag
        have ag : cd = c := ag
        subst ag
        have nz : ¬ cd = 0 := turnE_nz he
        have el : lookE m.funs f k x ats a = .error cd := by simp [lookE, hform, he, o3]
        simp +contextual (maxSteps := 2000000) (disch := ((try unfold LIM at *); omega)) only [↓bcase_true, ↓bcase_false, WA, simprocAttr, wrap_i64, spB, nz]
        exact fin ats cd _ ⟨rfl, by simp only [ho, el]; exact ⟨ats, rfl⟩⟩
      | ok now =>
        rw [he] at ag
        have ag : (b, cd) = (now, 0) := ag
        cases ag
        have hok2 := turnE_ok ha he
        have el : lookE m.funs f k x ats a = reachE ats (k + 1) b := by simp [lookE, hform, he, o3]
        simp +contextual (maxSteps := 2000000) (disch := ((try unfold LIM at *); omega)) only [↓bcase_true, ↓bcase_false, WA, simprocAttr, wrap_i64, spB, cast_succ]
        refine CallThen.to (m0 := m) (f := f) (code := 0) (place := k + 1) (by omega) hok2.1 hn2 hc3 hc4 hats hok (by omega) [0, 8, 9, 1] (by simp) ⟨.inr rfl, .inl ⟨nrs_map iV_nr _, rfl⟩, .inl ⟨nrs_map iV_nr _, rfl⟩, .inl ⟨cat_nr _, rfl⟩, trivial⟩ rfl 1000 ?_
        simp +contextual (maxSteps := 2000000) (disch := ((try unfold LIM at *); omega)) only [↓bcase_true, ↓bcase_false, WA, simprocAttr, wrap_i64]
        exact fin _ _ _ (look_to ho el)
    by_cases o4 : x.op = 4
    · obtain ⟨s, hs1, hs2⟩ : ∃ s : Nat, x.a = s ∧ s < n := by
        have h1 : x.a < f.slots := by simpa [formB, o4] using hform
        have h2 : 0 ≤ x.a := by
          have : rangeB x.a 0 1000 = true := by simpa [insB, o4, rangeB] using hxb
          simp only [rangeB, Bool.and_eq_true, decide_eq_true_eq] at this; omega
        exact ⟨x.a.toNat, by omega, by omega⟩
      have ag := agree4 (fs := m.funs) (now := a) o4 hs1
      simp +contextual (maxSteps := 2000000) (disch := ((try unfold LIM at *); omega)) only [↓bcase_true, ↓bcase_false, WA, simprocAttr, wrap_i64, rnRes, rnB_sp, rnB_cat, insV, o4, hs1]
      refine CallThen.turn (edit61 m f ats a 0 s (by omega) (by omega) (by omega)) d1 d2 d1h d2h [0, 4, 5, 1] (by simp) ⟨.inr rfl, .inl ⟨nrs_map iV_nr _, rfl⟩, .inl ⟨nrs_map iV_nr _, rfl⟩, .inl ⟨cat_nr _, rfl⟩, trivial⟩ rfl 1000 ?_
      intro c3 c4 hc3 hc4
      generalize keepT a 0 s = qq at *
      obtain ⟨b, cd⟩ := qq
      simp only at hc3 hc4
      simp +contextual (maxSteps := 2000000) (disch := ((try unfold LIM at *); omega)) only [↓bcase_true, ↓bcase_false, WA, simprocAttr, wrap_i64]
      cases he : turnE m.funs x a with
      | error c =>
        rw [he] at ag
        have ag : cd = c := ag
        subst ag
        have nz : ¬ cd = 0 := turnE_nz he
        have el : lookE m.funs f k x ats a = .error cd := by simp [lookE, hform, he, o4]
        simp +contextual (maxSteps := 2000000) (disch := ((try unfold LIM at *); omega)) only [↓bcase_true, ↓bcase_false, WA, simprocAttr, wrap_i64, spB, nz]
        exact fin ats cd _ ⟨rfl, by simp only [ho, el]; exact ⟨ats, rfl⟩⟩
      | ok now =>
        rw [he] at ag
        have ag : (b, cd) = (now, 0) := ag
        cases ag
        have hok2 := turnE_ok ha he
        have el : lookE m.funs f k x ats a = reachE ats (k + 1) b := by simp [lookE, hform, he, o4]
        simp +contextual (maxSteps := 2000000) (disch := ((try unfold LIM at *); omega)) only [↓bcase_true, ↓bcase_false, WA, simprocAttr, wrap_i64, spB, cast_succ]
        refine CallThen.to (m0 := m) (f := f) (code := 0) (place := k + 1) (by omega) hok2.1 hn2 hc3 hc4 hats hok (by omega) [0, 8, 9, 1] (by simp) ⟨.inr rfl, .inl ⟨nrs_map iV_nr _, rfl⟩, .inl ⟨nrs_map iV_nr _, rfl⟩, .inl ⟨cat_nr _, rfl⟩, trivial⟩ rfl 1000 ?_
        simp +contextual (maxSteps := 2000000) (disch := ((try unfold LIM at *); omega)) only [↓bcase_true, ↓bcase_false, WA, simprocAttr, wrap_i64]
        exact fin _ _ _ (look_to ho el)
    by_cases o1 : x.op = 1
    · have ag := agree1 (fs := m.funs) (now := a) (.inl o1)
      simp +contextual (maxSteps := 2000000) (disch := ((try unfold LIM at *); omega)) only [↓bcase_true, ↓bcase_false, WA, simprocAttr, wrap_i64, rnRes, rnB_sp, rnB_cat, insV, o1]
      refine CallThen.turn (edit62p m f ats a 0 x (by omega) (.inl o1)) d1 d2 d1h d2h [0, 4, 5, 1] (by simp) ⟨.inr rfl, .inl ⟨nrs_map iV_nr _, rfl⟩, .inl ⟨nrs_map iV_nr _, rfl⟩, .inl ⟨cat_nr _, rfl⟩, trivial⟩ (by simp only [insV, o1]; rfl) 1000 ?_
      intro c3 c4 hc3 hc4
      generalize pushT a 0 x.op = qq at *
      obtain ⟨b, cd⟩ := qq
      simp only at hc3 hc4
      simp +contextual (maxSteps := 2000000) (disch := ((try unfold LIM at *); omega)) only [↓bcase_true, ↓bcase_false, WA, simprocAttr, wrap_i64]
      cases he : turnE m.funs x a with
      | error c =>
        rw [he] at ag
        have ag : cd = c := ag
        subst ag
        have nz : ¬ cd = 0 := turnE_nz he
        have el : lookE m.funs f k x ats a = .error cd := by simp [lookE, hform, he, o1]
        simp +contextual (maxSteps := 2000000) (disch := ((try unfold LIM at *); omega)) only [↓bcase_true, ↓bcase_false, WA, simprocAttr, wrap_i64, spB, nz]
        exact fin ats cd _ ⟨rfl, by simp only [ho, el]; exact ⟨ats, rfl⟩⟩
      | ok now =>
        rw [he] at ag
        have ag : (b, cd) = (now, 0) := ag
        cases ag
        have hok2 := turnE_ok ha he
        have el : lookE m.funs f k x ats a = reachE ats (k + 1) b := by simp [lookE, hform, he, o1]
        simp +contextual (maxSteps := 2000000) (disch := ((try unfold LIM at *); omega)) only [↓bcase_true, ↓bcase_false, WA, simprocAttr, wrap_i64, spB, cast_succ]
        refine CallThen.to (m0 := m) (f := f) (code := 0) (place := k + 1) (by omega) hok2.1 hn2 hc3 hc4 hats hok (by omega) [0, 8, 9, 1] (by simp) ⟨.inr rfl, .inl ⟨nrs_map iV_nr _, rfl⟩, .inl ⟨nrs_map iV_nr _, rfl⟩, .inl ⟨cat_nr _, rfl⟩, trivial⟩ rfl 1000 ?_
        simp +contextual (maxSteps := 2000000) (disch := ((try unfold LIM at *); omega)) only [↓bcase_true, ↓bcase_false, WA, simprocAttr, wrap_i64]
        exact fin _ _ _ (look_to ho el)
    by_cases o2 : x.op = 2
    · have ag := agree1 (fs := m.funs) (now := a) (.inr o2)
      simp +contextual (maxSteps := 2000000) (disch := ((try unfold LIM at *); omega)) only [↓bcase_true, ↓bcase_false, WA, simprocAttr, wrap_i64, rnRes, rnB_sp, rnB_cat, insV, o2]
      refine CallThen.turn (edit62p m f ats a 0 x (by omega) (.inr o2)) d1 d2 d1h d2h [0, 4, 5, 1] (by simp) ⟨.inr rfl, .inl ⟨nrs_map iV_nr _, rfl⟩, .inl ⟨nrs_map iV_nr _, rfl⟩, .inl ⟨cat_nr _, rfl⟩, trivial⟩ (by simp only [insV, o2]; rfl) 1000 ?_
      intro c3 c4 hc3 hc4
      generalize pushT a 0 x.op = qq at *
      obtain ⟨b, cd⟩ := qq
      simp only at hc3 hc4
      simp +contextual (maxSteps := 2000000) (disch := ((try unfold LIM at *); omega)) only [↓bcase_true, ↓bcase_false, WA, simprocAttr, wrap_i64]
      cases he : turnE m.funs x a with
      | error c =>
        rw [he] at ag
        have ag : cd = c := ag
        subst ag
        have nz : ¬ cd = 0 := turnE_nz he
        have el : lookE m.funs f k x ats a = .error cd := by simp [lookE, hform, he, o2]
        simp +contextual (maxSteps := 2000000) (disch := ((try unfold LIM at *); omega)) only [↓bcase_true, ↓bcase_false, WA, simprocAttr, wrap_i64, spB, nz]
        exact fin ats cd _ ⟨rfl, by simp only [ho, el]; exact ⟨ats, rfl⟩⟩
      | ok now =>
        rw [he] at ag
        have ag : (b, cd) = (now, 0) := ag
        cases ag
        have hok2 := turnE_ok ha he
        have el : lookE m.funs f k x ats a = reachE ats (k + 1) b := by simp [lookE, hform, he, o2]
        simp +contextual (maxSteps := 2000000) (disch := ((try unfold LIM at *); omega)) only [↓bcase_true, ↓bcase_false, WA, simprocAttr, wrap_i64, spB, cast_succ]
        refine CallThen.to (m0 := m) (f := f) (code := 0) (place := k + 1) (by omega) hok2.1 hn2 hc3 hc4 hats hok (by omega) [0, 8, 9, 1] (by simp) ⟨.inr rfl, .inl ⟨nrs_map iV_nr _, rfl⟩, .inl ⟨nrs_map iV_nr _, rfl⟩, .inl ⟨cat_nr _, rfl⟩, trivial⟩ rfl 1000 ?_
        simp +contextual (maxSteps := 2000000) (disch := ((try unfold LIM at *); omega)) only [↓bcase_true, ↓bcase_false, WA, simprocAttr, wrap_i64]
        exact fin _ _ _ (look_to ho el)
    by_cases o5 : x.op = 5
    · obtain ⟨p, hp1, hp2⟩ : ∃ p : Nat, x.a = p + 1 ∧ p < 14 := by
        have h1 : 1 ≤ x.a ∧ x.a ≤ 14 := by simpa [formB, o5] using hform
        exact ⟨(x.a - 1).toNat, by omega, by omega⟩
      have ag := agree5 (fs := m.funs) (now := a) o5 hp1 hp2
      simp +contextual (maxSteps := 2000000) (disch := ((try unfold LIM at *); omega)) only [↓bcase_true, ↓bcase_false, WA, simprocAttr, wrap_i64, rnRes, rnB_sp, rnB_cat, insV, o5, hp1]
      refine CallThen.turn (edit62 m f ats a 0 x (primT p).1 (primT p).2 (by omega) (by omega) (primT_len p hp2) (.inl ⟨o5, p, hp2, hp1, rfl, rfl⟩)) d1 d2 d1h d2h [0, 4, 5, 1] (by simp) ⟨.inr rfl, .inl ⟨nrs_map iV_nr _, rfl⟩, .inl ⟨nrs_map iV_nr _, rfl⟩, .inl ⟨cat_nr _, rfl⟩, trivial⟩ (by simp only [insV, o5, hp1]; rfl) 1000 ?_
      intro c3 c4 hc3 hc4
      generalize ppT a 0 (primT p).1 (primT p).2 = qq at *
      obtain ⟨b, cd⟩ := qq
      simp only at hc3 hc4
      simp +contextual (maxSteps := 2000000) (disch := ((try unfold LIM at *); omega)) only [↓bcase_true, ↓bcase_false, WA, simprocAttr, wrap_i64]
      cases he : turnE m.funs x a with
      | error c =>
        rw [he] at ag
        have ag : cd = c := ag
        subst ag
        have nz : ¬ cd = 0 := turnE_nz he
        have el : lookE m.funs f k x ats a = .error cd := by simp [lookE, hform, he, o5]
        simp +contextual (maxSteps := 2000000) (disch := ((try unfold LIM at *); omega)) only [↓bcase_true, ↓bcase_false, WA, simprocAttr, wrap_i64, spB, nz]
        exact fin ats cd _ ⟨rfl, by simp only [ho, el]; exact ⟨ats, rfl⟩⟩
      | ok now =>
        rw [he] at ag
        have ag : (b, cd) = (now, 0) := ag
        cases ag
        have hok2 := turnE_ok ha he
        have el : lookE m.funs f k x ats a = reachE ats (k + 1) b := by simp [lookE, hform, he, o5]
        simp +contextual (maxSteps := 2000000) (disch := ((try unfold LIM at *); omega)) only [↓bcase_true, ↓bcase_false, WA, simprocAttr, wrap_i64, spB, cast_succ]
        refine CallThen.to (m0 := m) (f := f) (code := 0) (place := k + 1) (by omega) hok2.1 hn2 hc3 hc4 hats hok (by omega) [0, 8, 9, 1] (by simp) ⟨.inr rfl, .inl ⟨nrs_map iV_nr _, rfl⟩, .inl ⟨nrs_map iV_nr _, rfl⟩, .inl ⟨cat_nr _, rfl⟩, trivial⟩ rfl 1000 ?_
        simp +contextual (maxSteps := 2000000) (disch := ((try unfold LIM at *); omega)) only [↓bcase_true, ↓bcase_false, WA, simprocAttr, wrap_i64]
        exact fin _ _ _ (look_to ho el)
    by_cases o10 : x.op = 10
    · obtain ⟨p, hp1, hp2⟩ : ∃ p : Nat, x.a = p ∧ p ≤ 1000 := by
        have : rangeB x.a 0 1000 = true := by simpa [insB, o10, rangeB] using hxb
        simp only [rangeB, Bool.and_eq_true, decide_eq_true_eq] at this
        exact ⟨x.a.toNat, by omega, by omega⟩
      have ag := agree10 (fs := m.funs) (now := a) o10 hp1
      simp +contextual (maxSteps := 2000000) (disch := ((try unfold LIM at *); omega)) only [↓bcase_true, ↓bcase_false, WA, simprocAttr, wrap_i64, rnRes, rnB_sp, rnB_cat, insV, o10, hp1]
      refine CallThen.turn (edit62 m f ats a 0 x (List.replicate p 1) 3 (by omega) (by omega) (by simp; omega) (.inr (.inl ⟨o10, p, hp2, hp1, rfl, rfl⟩))) d1 d2 d1h d2h [0, 4, 5, 1] (by simp) ⟨.inr rfl, .inl ⟨nrs_map iV_nr _, rfl⟩, .inl ⟨nrs_map iV_nr _, rfl⟩, .inl ⟨cat_nr _, rfl⟩, trivial⟩ (by simp only [insV, o10, hp1]; rfl) 1000 ?_
      intro c3 c4 hc3 hc4
      generalize ppT a 0 (List.replicate p 1) 3 = qq at *
      obtain ⟨b, cd⟩ := qq
      simp only at hc3 hc4
      simp +contextual (maxSteps := 2000000) (disch := ((try unfold LIM at *); omega)) only [↓bcase_true, ↓bcase_false, WA, simprocAttr, wrap_i64]
      cases he : turnE m.funs x a with
      | error c =>
        rw [he] at ag
        have ag : cd = c := ag
        subst ag
        have nz : ¬ cd = 0 := turnE_nz he
        have el : lookE m.funs f k x ats a = .error cd := by simp [lookE, hform, he, o10]
        simp +contextual (maxSteps := 2000000) (disch := ((try unfold LIM at *); omega)) only [↓bcase_true, ↓bcase_false, WA, simprocAttr, wrap_i64, spB, nz]
        exact fin ats cd _ ⟨rfl, by simp only [ho, el]; exact ⟨ats, rfl⟩⟩
      | ok now =>
        rw [he] at ag
        have ag : (b, cd) = (now, 0) := ag
        cases ag
        have hok2 := turnE_ok ha he
        have el : lookE m.funs f k x ats a = reachE ats (k + 1) b := by simp [lookE, hform, he, o10]
        simp +contextual (maxSteps := 2000000) (disch := ((try unfold LIM at *); omega)) only [↓bcase_true, ↓bcase_false, WA, simprocAttr, wrap_i64, spB, cast_succ]
        refine CallThen.to (m0 := m) (f := f) (code := 0) (place := k + 1) (by omega) hok2.1 hn2 hc3 hc4 hats hok (by omega) [0, 8, 9, 1] (by simp) ⟨.inr rfl, .inl ⟨nrs_map iV_nr _, rfl⟩, .inl ⟨nrs_map iV_nr _, rfl⟩, .inl ⟨cat_nr _, rfl⟩, trivial⟩ rfl 1000 ?_
        simp +contextual (maxSteps := 2000000) (disch := ((try unfold LIM at *); omega)) only [↓bcase_true, ↓bcase_false, WA, simprocAttr, wrap_i64]
        exact fin _ _ _ (look_to ho el)
    have o8 : x.op = 8 := by
      have : rangeB x.op 1 10 = true := by
        simp only [insB, o1, o2, o9, if_false, Bool.and_eq_true] at hxb; exact hxb.1
      simp only [rangeB, Bool.and_eq_true, decide_eq_true_eq] at this; omega
    obtain ⟨p, hp1, hp2⟩ : ∃ p : Nat, x.a = p ∧ p ≤ 1000 := by
      have : rangeB x.a 0 1000 = true := by simpa [insB, o8, rangeB] using hxb
      simp only [rangeB, Bool.and_eq_true, decide_eq_true_eq] at this
      exact ⟨x.a.toNat, by omega, by omega⟩
    obtain ⟨g, hg⟩ : ∃ g, m.funs[p]? = some g := by
      have h1 : x.a < m.funs.length := by simpa [formB, o8] using hform
      exact ⟨m.funs[p]'(by omega), List.getElem?_eq_getElem (by omega)⟩
    have hgm := hm g (List.mem_of_getElem? hg)
    have ag := agree8 (fs := m.funs) (now := a) o8 hp1 hg hgm.1
    simp +contextual (maxSteps := 2000000) (disch := ((try unfold LIM at *); omega)) only [↓bcase_true, ↓bcase_false, WA, simprocAttr, wrap_i64, rnRes, rnB_sp, rnB_cat, insV, o8, hp1]
    refine CallThen.turn (edit62 m f ats a 0 x g.args g.typ (by omega) (by omega) (by omega) (.inr (.inr ⟨o8, p, g, hp1, hg, rfl, rfl⟩))) d1 d2 d1h d2h [0, 4, 5, 1] (by simp) ⟨.inr rfl, .inl ⟨nrs_map iV_nr _, rfl⟩, .inl ⟨nrs_map iV_nr _, rfl⟩, .inl ⟨cat_nr _, rfl⟩, trivial⟩ (by simp only [insV, o8, hp1]; rfl) 1000 ?_
    intro c3 c4 hc3 hc4
    generalize ppT a 0 g.args g.typ = qq at *
    obtain ⟨b, cd⟩ := qq
    simp only at hc3 hc4
    simp +contextual (maxSteps := 2000000) (disch := ((try unfold LIM at *); omega)) only [↓bcase_true, ↓bcase_false, WA, simprocAttr, wrap_i64]
    cases he : turnE m.funs x a with
    | error c =>
      rw [he] at ag
      have ag : cd = c := ag
      subst ag
      have nz : ¬ cd = 0 := turnE_nz he
      have el : lookE m.funs f k x ats a = .error cd := by simp [lookE, hform, he, o8]
      simp +contextual (maxSteps := 2000000) (disch := ((try unfold LIM at *); omega)) only [↓bcase_true, ↓bcase_false, WA, simprocAttr, wrap_i64, spB, nz]
      exact fin ats cd _ ⟨rfl, by simp only [ho, el]; exact ⟨ats, rfl⟩⟩
    | ok now =>
      rw [he] at ag
      have ag : (b, cd) = (now, 0) := ag
      cases ag
      have hok2 := turnE_ok ha he
      have el : lookE m.funs f k x ats a = reachE ats (k + 1) b := by simp [lookE, hform, he, o8]
      simp +contextual (maxSteps := 2000000) (disch := ((try unfold LIM at *); omega)) only [↓bcase_true, ↓bcase_false, WA, simprocAttr, wrap_i64, spB, cast_succ]
      refine CallThen.to (m0 := m) (f := f) (code := 0) (place := k + 1) (by omega) hok2.1 hn2 hc3 hc4 hats hok (by omega) [0, 8, 9, 1] (by simp) ⟨.inr rfl, .inl ⟨nrs_map iV_nr _, rfl⟩, .inl ⟨nrs_map iV_nr _, rfl⟩, .inl ⟨cat_nr _, rfl⟩, trivial⟩ rfl 1000 ?_
      simp +contextual (maxSteps := 2000000) (disch := ((try unfold LIM at *); omega)) only [↓bcase_true, ↓bcase_false, WA, simprocAttr, wrap_i64]
      exact fin _ _ _ (look_to ho el)
end Go.Proofs.YtijefmjfdhfjmaaDoor
/- part S22 -/
set_option linter.unusedVariables false
set_option linter.unusedSimpArgs false
set_option maxRecDepth 100000
namespace Go.Proofs.YtijefmjfdhfjmaaDoor
open Go Go.W Go.RowKit
theorem popE_pos {st : List Int} {k c : Int} (h : popE st k = .error c) : 0 < c := by
  unfold popE at h
  split at h
  · cases h; decide
  · split at h
    · cases h; decide
    · cases h
theorem popsE_pos : ∀ {ks st : List Int} {c : Int}, popsE st ks = .error c → 0 < c
  | [], st, c, h => by simp only [popsE] at h; cases h
  | k :: ks, st, c, h => by
    simp only [popsE] at h
    split at h
    · exact popsE_pos h
    · rename_i h1; cases h; exact popE_pos h1
theorem pushE_pos {st : List Int} {k c : Int} (h : pushE st k = .error c) : 0 < c := by
  unfold pushE at h
  split at h
  · cases h; decide
  · cases h
theorem reachE_pos {ats : Ats} {to : Nat} {now : At} {c : Int} (h : reachE ats to now = .error c) : 0 < c := by
  unfold reachE at h
  split at h
  · cases h; decide
  · cases h
  · split at h
    · cases h
    · cases h; decide
theorem turnE_pos {fs : List IFun} {x : Ins} {now : At} {c : Int} (h : turnE fs x now = .error c) : 0 < c := by
  have put : ∀ {st : Except Int (List Int)} {k c : Int}, (∀ c, st = .error c → 0 < c) → (match st with
    | .ok st => match pushE st k with
      | .ok st' => (.ok ⟨st', now.slots⟩ : Except Int At)
      | .error e => .error e
    | .error e => .error e) = .error c → 0 < c := by
    intro st k c h0 h
    split at h
    · split at h
      · cases h
      · rename_i h1; cases h; exact pushE_pos h1
    · cases h; exact h0 _ rfl
  have ok : ∀ {st : List Int}, ∀ c, (.ok st : Except Int (List Int)) = .error c → 0 < c := fun c e => by cases e
  unfold turnE at h
  simp only at h
  split at h
  · exact put (st := .ok now.stack) ok h
  split at h
  · exact put (st := .ok now.stack) ok h
  split at h
  · split at h
    · cases h; decide
    · exact put (st := .ok now.stack) ok h
  split at h
  · split at h
    · cases h
    · rename_i h1; cases h; exact popE_pos h1
  split at h
  · exact put (fun _ => popsE_pos) h
  split at h
  · split at h
    · cases h
    · rename_i h1; cases h; exact popE_pos h1
  split at h
  · exact put (fun _ => popsE_pos) h
  split at h
  · exact put (fun _ => popsE_pos) h
  · cases h
theorem lookE_pos {fs : List IFun} {f : IFun} {i : Nat} {x : Ins} {ats : Ats} {now : At} {c : Int} (h : lookE fs f i x ats now = .error c) : 0 < c := by
  unfold lookE at h
  split at h
  · cases h; decide
  split at h
  · split at h
    · cases h
    · rename_i h1; cases h
      unfold backE at h1
      split at h1
      · cases h1; decide
      split at h1
      · cases h1; decide
      · cases h1
  split at h
  · rename_i h1; cases h; exact turnE_pos h1
  · split at h
    · exact reachE_pos h
    split at h
    · split at h
      · exact reachE_pos h
      · rename_i h1; cases h; exact reachE_pos h1
    · exact reachE_pos h
theorem allE_pos {fs : List IFun} {f : IFun} : ∀ {l : List Ins} {i : Nat} {ats : Ats} {c : Int × Nat}, allE fs f l i ats = .error c → 0 < c.1
  | [], i, ats, c, h => by simp only [allE] at h; cases h
  | x :: r, i, ats, c, h => by
    simp only [allE] at h
    split at h
    · split at h
      · exact allE_pos h
      · rename_i h1; cases h; exact lookE_pos h1
    · cases h; show 0 < (7 : Int); decide
theorem sureE_pos {fs : List IFun} {f : IFun} {c : Int × Nat} (h : sureE fs f = .error c) : 0 < c.1 := by
  unfold sureE at h
  split at h
  · cases h; show 0 < (3 : Int); decide
  split at h
  · cases h; show 0 < (7 : Int); decide
  · exact allE_pos h
def funR (m : Img) (f : IFun) (res : Res) (h' : H) : Prop := match sureE m.funs f with
  | .ok ats => res = .ret (.tup [.ptr 0 0 0, .s (.int .i64 0)]) ∧ h' = [spB m f (.sl 1 0 ats.length ats.length) 0, catB ats]
  | .error e => ∃ (ats : Ats) (n : Nat), res = .ret (.tup [.ptr 0 0 0, .s (.int .i64 e.2)]) ∧ h' = [spB m f (.sl 1 0 n n) e.1, catB ats]
theorem nil_refl (b : Nat) : ∀ els : List (List V), All2 (All2 (nilC1 b)) els els
  | [] => trivial
  | el :: els => ⟨by
      induction el with
      | nil => trivial
      | cons x xs ih => exact ⟨.inl rfl, ih⟩, nil_refl b els⟩
theorem calls20 (m : Img) (fn : Nat) (f : IFun) (hf : m.funs[fn]? = some f) (hm : m.funs.all okF = true) (hml : m.funs.length ≤ 72) : CallsV C 20 [.agg (imgV m), .s (.int .i64 fn)] [] (funR m f) := by
  refine calls_of_run Tryd.func20 rfl (by kernel_rfl) (by kernel_rfl) (by simp) 1000 ?_
  have hok := List.all_eq_true.1 hm f (List.mem_of_getElem? hf)
  obtain ⟨ft, fs0, fs1, fc, fa, fi⟩ := okF_facts hok
  obtain ⟨n, hn, hn2⟩ : ∃ n : Nat, f.slots = n ∧ n ≤ 1000 := ⟨f.slots.toNat, by omega, by omega⟩
  have hgs : ∀ g ∈ m.funs, g.args.all typB = true ∧ g.args.length ≤ 4 := fun g hg => by
    have h := okF_facts (List.all_eq_true.1 hm g hg)
    have h2 := List.all_eq_true.1 hm g hg
    simp only [okF, headB, Bool.and_eq_true] at h2
    exact ⟨h2.1.1.2.1.1.2.2, h.2.2.2.2.1⟩
  have kf : fn < m.funs.length := (List.getElem?_eq_some_iff.1 hf).1
  have kf' : (fn : Int) < m.funs.length := by omega
  have k0 : (0 : Int) ≤ fn := by omega
  have hfv : (m.funs.map fnV)[fn]? = some (fnV f) := by rw [List.getElem?_map, hf]; rfl
  have b1 : (0 : Int) ≤ f.code.length := by omega
  have b2 : (40 : Int) * f.code.length ≤ 140737488355328 := by omega
  have b2' : (56 : Int) * f.code.length ≤ 140737488355328 := by omega
  have b3 : (f.code.length : Int) ≤ 4611686018427387904 := by omega
  simp +contextual (maxSteps := 2000000) (disch := ((try unfold LIM at *); omega)) only [↓bcase_true, ↓bcase_false, WA, simprocAttr, wrap_i64, imgV, List.length_map, kf', k0, hfv, fnV]
  refine DrawThen.of 1000 [] (.old 0 (.old 1 (.old 2 (.old 3 (.old 4 (.go 5 (.new 6 (.go 7 (.new 8 .done))))))))) (panFree_body _ _) (by kernel_rfl) (by kernel_rfl) (by kernel_rfl) ?_
  simp +contextual (maxSteps := 2000000) (disch := ((try unfold LIM at *); omega)) only [↓bcase_true, ↓bcase_false, WA, simprocAttr, wrap_i64, List.length_map, b1, b2, b2', b3, Int.le_refl, hn]
  repeat' apply And.intro
  all_goals
    skip
  intro _ _
  have hcat0 : (List.replicate f.code.length [V.s (.bool false), .z, .z]) = (List.replicate f.code.length (none : Option At)).map catC := by rw [List.map_replicate]; rfl
  have lats : (List.replicate f.code.length (none : Option At)).length = f.code.length := by simp
  refine ⟨fun c1 => ?_, fun c1 => ?_⟩
  · have e : sureE m.funs f = .error (3, 0) := by simp [sureE, hn, c1]
    refine CallThen.of 1000 (CallsV.frameL (edit34 m f (.sl 1 0 f.code.length f.code.length) 0 3 [catB (List.replicate f.code.length none)]) [3, 2] _ (by simp) ⟨.inr ?_, .inl ⟨cat_nr _, ?_⟩, trivial⟩ rfl) fun res h' hx => ?_
    · simp only [spB, hn]; rfl
    · rw [catB, ← hcat0, lats]; rfl
    obtain ⟨r, h1, ⟨k1, k2⟩, k5, k6, k7⟩ := hx
    subst k1; subst k2; subst k6; subst k7
    simp +contextual (maxSteps := 2000000) (disch := ((try unfold LIM at *); omega)) only [↓bcase_true, ↓bcase_false, WA, simprocAttr, wrap_i64, rnRes, rnB_sp, rnB_cat]
    refine Up.gcF (.tup [.ptr 0 0 0, .s (.int .i64 0)]) [] [] [3, 2] [spB m f (.sl 1 0 f.code.length f.code.length) 3, catB (List.replicate f.code.length none)] (by simp) rfl ⟨.inr rfl, .inl ⟨cat_nr _, rfl⟩, trivial⟩ rfl ?_
    simp only [funR, e]
    exact ⟨_, _, rfl, rfl⟩
  refine ⟨fun c2 => ?_, fun c2 => ?_⟩
  · have c2' : f.code = [] := List.length_eq_zero_iff.1 (by omega)
    have e : sureE m.funs f = .error (7, 0) := by simp [sureE, hn, c1, c2']
    refine CallThen.of 1000 (CallsV.frameL (edit34 m f (.sl 1 0 f.code.length f.code.length) 0 7 [catB (List.replicate f.code.length none)]) [3, 2] _ (by simp) ⟨.inr ?_, .inl ⟨cat_nr _, ?_⟩, trivial⟩ rfl) fun res h' hx => ?_
    · simp only [spB, hn]; rfl
    · rw [catB, ← hcat0, lats]; rfl
    obtain ⟨r, h1, ⟨k1, k2⟩, k5, k6, k7⟩ := hx
    subst k1; subst k2; subst k6; subst k7
    simp +contextual (maxSteps := 2000000) (disch := ((try unfold LIM at *); omega)) only [↓bcase_true, ↓bcase_false, WA, simprocAttr, wrap_i64, rnRes, rnB_sp, rnB_cat]
    refine Up.gcF (.tup [.ptr 0 0 0, .s (.int .i64 0)]) [] [] [3, 2] [spB m f (.sl 1 0 f.code.length f.code.length) 7, catB (List.replicate f.code.length none)] (by simp) rfl ⟨.inr rfl, .inl ⟨cat_nr _, rfl⟩, trivial⟩ rfl ?_
    simp only [funR, e]
    exact ⟨_, _, rfl, rfl⟩
  obtain ⟨q, hq⟩ : ∃ q, f.code.length = q + 1 := ⟨f.code.length - 1, by omega⟩
  have t1 : (f.args.map iV).take f.args.length = f.args.map iV := List.take_of_length_le (by simp)
  refine ⟨leafs_map iV_ok _, by omega, fun cap hcap _ => ?_⟩
  obtain ⟨z, hz⟩ : ∃ z : Nat, (n : Int) = f.args.length + z := ⟨n - f.args.length, by omega⟩
  have lsl : ∀ i, (f.args ++ List.replicate i (0 : Int)).length = f.args.length + i := fun i => by simp
  refine LoopThen.own (ι := Nat × Nat) (fun s => s.1 ≤ z ∧ f.args.length + s.1 ≤ s.2)
    (fun s => [(6, .ptr 2 0 0), (7, .ptr 0 0 0), (8, .sl 3 0 (f.args.length + s.1) s.2)])
    (fun s => [spB m f (.sl 1 0 f.code.length f.code.length) 0, catB (List.replicate f.code.length none), ⟨[fnV f], 6, 1, true⟩, ⟨(f.args ++ List.replicate s.1 (0 : Int)).map iV, 1, s.2, true⟩]) (fun s => z - s.1) 1000 1000
    ⟨(0, cap), ⟨Nat.zero_le _, by simpa using hcap⟩, [3, 2, 1, 5], by simp, ⟨.inr ?_, .inl ⟨cat_nr _, ?_⟩, .inl ⟨rfl, ?_⟩, .inl ⟨nrs_map iV_nr _, ?_⟩, trivial⟩, by simp +contextual (maxSteps := 2000000) (disch := ((try unfold LIM at *); omega)) only [↓bcase_true, ↓bcase_false, WA, simprocAttr, wrap_i64, nm_at]⟩ ?_
  · simp only [spB, hn]; rfl
  · rw [catB, ← hcat0, lats]; rfl
  · simp only [fnV, hn]; rfl
  · simp only [List.replicate_zero, List.append_nil]; rfl
  rintro ⟨i, c⟩ ⟨p1, p2⟩
  simp only at p1 p2
  by_cases c3 : (f.args.length : Int) + i < n
  · have c3' : ((f.args.length + i : Nat) : Int) < n := by omega
    simp +contextual (maxSteps := 2000000) (disch := ((try unfold LIM at *); omega)) only [↓bcase_true, ↓bcase_false, WA, simprocAttr, wrap_i64, fnV, hn, c3, c3', lsl, List.length_map]
    refine ⟨⟨by omega, by unfold LIM; omega⟩, fun cap' h1 _ => ⟨(i + 1, cap'), ⟨⟨by simp only; omega, by simp only; omega⟩, by simp only; omega⟩, [0, 1, 2, 5], by simp, ⟨.inr rfl, .inl ⟨cat_nr _, rfl⟩, .inl ⟨rfl, rfl⟩, .inl ⟨nrs_map iV_nr _, ?_⟩, trivial⟩, rfl, rfl, rfl⟩⟩
    show some (⟨(f.args ++ List.replicate i (0 : Int)).map iV ++ [[V.s (.int .i64 0)]], 1, cap', true⟩ : Blk) = some ⟨(f.args ++ List.replicate (i + 1) (0 : Int)).map iV, 1, cap', true⟩
    rw [List.replicate_succ', ← List.append_assoc, List.map_append (l₂ := [(0 : Int)])]; rfl
  · have e : i = z := by omega
    subst e
    have c3' : ¬ ((f.args.length + i : Nat) : Int) < n := by omega
    have c7 : (0 : Int) < ((q + 1 : Nat) : Int) := by omega
    simp +contextual (maxSteps := 2000000) (disch := ((try unfold LIM at *); omega)) only [↓bcase_true, ↓bcase_false, WA, simprocAttr, wrap_i64, fnV, hn, c3, c3', lsl, List.length_map, spB, catB, hq, List.length_replicate, List.replicate_succ, List.map_cons, catC, c7, Int.le_refl]
    generalize hsl : f.args ++ List.replicate i (0 : Int) = sl at *
    have lsl2 : sl.length = n := by rw [← hsl]; simp; omega
    have esure : sureE m.funs f = allE m.funs f f.code 0 (some ⟨[], sl⟩ :: List.replicate q none) := by
      have e1 : ¬ f.slots < f.args.length := by omega
      have e2 : (f.slots - f.args.length).toNat = i := by omega
      have e3 : f.code.length - 1 = q := by omega
      have e4 : ¬ f.code = [] := fun h => by rw [h] at hq; simp at hq
      simp only [sureE, e1, if_false, e4, e2, e3, hsl]
    have elen : f.args.length + i = sl.length := by omega
    rw [elen]
    refine LoopThen.arr (Arr.nilCell (b := 1) (m := 1) (els' := [.s (.bool true), .sl 4 0 0 0, .sl 3 0 sl.length c] :: List.map catC (List.replicate q none)) rfl ⟨⟨.inl rfl, .inr ⟨rfl, rfl⟩, .inl rfl, trivial⟩, nil_refl _ _⟩) (fun _ => rfl) ?_
    simp +contextual (maxSteps := 2000000) (disch := ((try unfold LIM at *); omega)) only [↓bcase_true, ↓bcase_false, WA, simprocAttr, wrap_i64]
    refine LoopThen.ownF 0 (ι := Nat × Ats) (fun s => s.1 ≤ q + 1 ∧ allE m.funs f (f.code.drop s.1) s.1 s.2 = sureE m.funs f ∧ AtsOk n s.2 ∧ s.2.length = q + 1)
      (fun s => [(6, .ptr 2 0 0), (7, .ptr 0 0 0), (9, .s (.int .i64 s.1))])
      (fun s => [spB m f (.sl 1 0 (q + 1) (q + 1)) 0, catB s.2, ⟨[fnV f], 6, 1, true⟩]) (fun s => q + 1 - s.1) 1000 1000
      ⟨(0, some ⟨[], sl⟩ :: List.replicate q none), ⟨Nat.zero_le _, esure.symm, ?_, by simp⟩, [(1, 0, 1), (1, 0, 2)], [0, 1, 2], ⟨by simp, rfl⟩, ?_, by simp +contextual (maxSteps := 2000000) (disch := ((try unfold LIM at *); omega)) only [↓bcase_true, ↓bcase_false, WA, simprocAttr, wrap_i64, folds_length]⟩ ?_
    · intro a ha
      rcases List.mem_cons.1 ha with e | e
      · cases e; exact ⟨lsl2, by simp⟩
      · exact absurd (List.mem_replicate.1 e).2 (by simp)
    · have n0 : nrs [] = true := rfl
      have n1 := nrs_map iV_nr sl
      simp [folds, foldC, foldK, rdC, rdB, refB, ownOf, elsB, wrH, wrB, wrE, wrL, shrinks, shr1, gcL, n0, n1]
      refine ⟨.inr (by simp only [spB, hn]; rfl), .inl ⟨cat_nr _, ?_⟩, .inl ⟨rfl, by rw [fnV, hn]⟩⟩
      simp [catB, catC]
    rintro ⟨i, ats⟩ ⟨p1, p2, p3, p4⟩
    simp only at p1 p2 p3 p4
    by_cases c4 : i < q + 1
    · have c4' : (i : Int) < ((q + 1 : Nat) : Int) := by omega
      have pi : (0 : Int) ≤ i := by omega
      obtain ⟨x, hx⟩ : ∃ x, f.code[i]? = some x := ⟨f.code[i], List.getElem?_eq_getElem (by omega)⟩
      have hxb : insB x = true := List.all_eq_true.1 fi x (List.mem_of_getElem? hx)
      rw [drop_cons hx] at p2
      simp only [allE] at p2
      simp +contextual (maxSteps := 2000000) (disch := ((try unfold LIM at *); omega)) only [↓bcase_true, ↓bcase_false, WA, simprocAttr, wrap_i64, fnV, hn, List.length_map, hq, c4']
      refine fun _ => CallThen.of 1000 (CallsV.frameL (edit35 m f ats i n x hx hxb hn hn2 (p4.trans hq.symm) p3 fc hgs) [0, 1] _ (by simp) ⟨.inr (by rw [p4]; rfl), .inl ⟨cat_nr _, rfl⟩, trivial⟩ rfl) fun res h' hx' => ?_
      obtain ⟨r, h1, ⟨k1, k2⟩, k5, k6, k7⟩ := hx'
      subst k1; subst k6; subst k7
      cases ho : ats[i]? with
      | none => rw [List.getElem?_eq_none_iff] at ho; omega
      | some o =>
        rw [ho] at p2 k2
        cases o with
        | none =>
          simp only at p2 k2
          subst k2
          simp +contextual (maxSteps := 2000000) (disch := ((try unfold LIM at *); omega)) only [↓bcase_true, ↓bcase_false, WA, simprocAttr, wrap_i64, rnRes, rnB_sp, rnB_cat, spB]
          refine Up.gcF (.tup [.ptr 0 0 0, .s (.int .i64 i)]) [] [] [0, 1] [spB m f (.sl 1 0 ats.length ats.length) 7, catB ats] (by simp) rfl ⟨.inr rfl, .inl ⟨cat_nr _, rfl⟩, trivial⟩ rfl ?_
          simp only [funR, ← p2]
          exact ⟨ats, ats.length, trivial, rfl⟩
        | some a =>
          simp only at p2 k2
          cases hl : lookE m.funs f i x ats a with
          | ok ats' =>
            rw [hl] at p2 k2
            simp only at p2 k2
            subst k2
            have ha := p3 a (List.mem_of_getElem? ho)
            have hok2 := lookE_ok p3 ha hl
            simp +contextual (maxSteps := 2000000) (disch := ((try unfold LIM at *); omega)) only [↓bcase_true, ↓bcase_false, WA, simprocAttr, wrap_i64, rnRes, rnB_sp, rnB_cat, spB, cast_succ]
            have hl2 := hok2.2
            refine ⟨(i + 1, ats'), ⟨⟨by simp only; omega, p2, hok2.1, by simp only; omega⟩, by simp only; omega⟩, [], [0, 1, 2], ⟨by simp, rfl⟩, ⟨.inr (by rw [p4]; rfl), .inl ⟨cat_nr _, rfl⟩, .inl ⟨rfl, rfl⟩, trivial⟩, by simp +contextual (maxSteps := 2000000) (disch := ((try unfold LIM at *); omega)) only [↓bcase_true, ↓bcase_false, WA, simprocAttr, wrap_i64, folds_length]⟩
          | error c =>
            rw [hl] at p2 k2
            simp only at p2 k2
            obtain ⟨ats', k2⟩ := k2
            subst k2
            have nz : ¬ c = 0 := lookE_nz hl
            have ps : 0 < c := lookE_pos hl
            simp +contextual (maxSteps := 2000000) (disch := ((try unfold LIM at *); omega)) only [↓bcase_true, ↓bcase_false, WA, simprocAttr, wrap_i64, rnRes, rnB_sp, rnB_cat, spB, nz, ps]
            refine Up.gcF (.tup [.ptr 0 0 0, .s (.int .i64 i)]) [] [] [0, 1] [spB m f (.sl 1 0 ats.length ats.length) c, catB ats'] (by simp) rfl ⟨.inr rfl, .inl ⟨cat_nr _, rfl⟩, trivial⟩ rfl ?_
            simp only [funR, ← p2]
            exact ⟨ats', ats.length, trivial, rfl⟩
    · have e : i = q + 1 := by omega
      subst e
      have e2 : f.code.drop (q + 1) = [] := List.drop_of_length_le (by omega)
      rw [e2] at p2
      simp only [allE] at p2
      have c4' : ¬ ((q + 1 : Nat) : Int) < ((q + 1 : Nat) : Int) := by omega
      simp +contextual (maxSteps := 2000000) (disch := ((try unfold LIM at *); omega)) only [↓bcase_true, ↓bcase_false, WA, simprocAttr, wrap_i64, fnV, hn, List.length_map, hq, c4']
      refine fun _ => Up.gcF (.tup [.ptr 0 0 0, .s (.int .i64 0)]) [] [] [0, 1] [spB m f (.sl 1 0 ats.length ats.length) 0, catB ats] (by simp) rfl ⟨.inr (by rw [p4]; rfl), .inl ⟨cat_nr _, rfl⟩, trivial⟩ rfl ?_
      simp only [funR, ← p2]
      exact ⟨trivial, trivial⟩
end Go.Proofs.YtijefmjfdhfjmaaDoor
/- part S23 -/
set_option linter.unusedVariables false
set_option linter.unusedSimpArgs false
set_option maxRecDepth 100000
namespace Go.Proofs.YtijefmjfdhfjmaaDoor
open Go Go.W Go.RowKit
theorem walk6 (m : Img) (hk : m.funs.length ≤ 1048576) (hm : m.mains.length ≤ 1048576) (hs : sizeN m.funs ≤ 1048576) : PureV C 6 [.agg (imgV m)] (fltV (sureF m)) := by
  refine pure_of_run Tryd.func6 rfl (by kernel_rfl) (by kernel_rfl) (by simp) (fun _ => rfl) (fun _ => rfl) 6 1000 ?_
  simp +contextual (maxSteps := 2000000) (disch := ((try unfold LIM at *); omega)) only [↓bcase_true, ↓bcase_false, WA, simprocAttr, wrap_i64, imgV]
  refine CallThen.pure (walk19 m hk hm hs) 1000 ?_
  cases c1 : imgB m
  · have e : sureF m = (1, 0, 0) := by simp [sureF, c1]
    simp +contextual (maxSteps := 2000000) (disch := ((try unfold LIM at *); omega)) only [↓bcase_true, ↓bcase_false, WA, simprocAttr, wrap_i64, c1, e, fltV]
  have e : sureF m = faultE m := by simp [sureF, c1]
  obtain ⟨i1, i2, i3, i4⟩ := imgB_all c1
  simp +contextual (maxSteps := 2000000) (disch := ((try unfold LIM at *); omega)) only [↓bcase_true, ↓bcase_false, WA, simprocAttr, wrap_i64, c1, e, List.length_map]
  refine LoopThen.own (ι := Nat) (fun i => i ≤ m.mains.length ∧ mainE m.funs (m.mains.drop i) = mainE m.funs m.mains)
    (fun i => [(1, .ptr 0 0 0), (2, .ptr 1 0 0), (3, .s (.int .i64 i))])
    (fun _ => [⟨[[.f 6 (m.funs.map fnV), .f 1 (m.mains.map iV)]], 2, 1, true⟩, ⟨[[.s (.int .i64 0), .s (.int .i64 0), .s (.int .i64 0)]], 3, 1, true⟩]) (fun i => m.mains.length - i) 1000 1000
    ⟨0, ⟨Nat.zero_le _, by simp⟩, [0, 1], by simp, by simp +contextual (maxSteps := 2000000) (disch := ((try unfold LIM at *); omega)) only [↓bcase_true, ↓bcase_false, WA, simprocAttr, wrap_i64], by simp +contextual (maxSteps := 2000000) (disch := ((try unfold LIM at *); omega)) only [↓bcase_true, ↓bcase_false, WA, simprocAttr, wrap_i64, nm_at]⟩ ?_
  rintro i ⟨p1, p2⟩
  by_cases c2 : (i : Int) < m.mains.length
  · obtain ⟨x, hx⟩ := get_lt c2
    have pi : (0 : Int) ≤ i := by omega
    rw [drop_cons hx] at p2
    obtain ⟨k, rfl, hk2⟩ := i4 x (List.mem_of_getElem? hx)
    obtain ⟨g, hg⟩ : ∃ g, m.funs[k]? = some g := ⟨m.funs[k], List.getElem?_eq_getElem hk2⟩
    have hk3 : (k : Int) < m.funs.length := by omega
    have pk : (0 : Int) ≤ k := by omega
    have hgv : (m.funs.map fnV)[k]? = some (fnV g) := by rw [List.getElem?_map, hg]; rfl
    have hxv : (m.mains.map iV)[i]? = some (iV k) := by rw [List.getElem?_map, hx]; rfl
    simp only [mainE, Int.toNat_natCast, hg, Option.map_some, Option.getD_some] at p2
    simp +contextual (maxSteps := 2000000) (disch := ((try unfold LIM at *); omega)) only [↓bcase_true, ↓bcase_false, WA, simprocAttr, wrap_i64, List.length_map, c2]
    refine fun _ => DrawThen.of 1000 [] (.old 0 (.old 1 (.old 2 (.old 3 (.old 4 (.old 5 (.old 6 (.old 7 (.old 8 (.old 9 (.old 10 (.old 11 .done)))))))))))) (panFree_loopO (panFree_pure _ _ _)) (by kernel_rfl) (by kernel_rfl) (by kernel_rfl) ?_
    by_cases c3 : 0 < g.args.length
    · have c3' : (0 : Int) < g.args.length := by omega
      rw [if_pos c3] at p2
      have e2 : faultE m = (2, (k : Int), 0) := by simp [faultE, ← p2]
      simp +contextual (maxSteps := 2000000) (disch := ((try unfold LIM at *); omega)) only [↓bcase_true, ↓bcase_false, WA, simprocAttr, wrap_i64, List.length_map, c2, hxv, pi, hk3, pk, hgv, fnV, c3', iV, e2, fltV]
    · have c3' : ¬ (0 : Int) < g.args.length := by omega
      rw [if_neg c3] at p2
      simp +contextual (maxSteps := 2000000) (disch := ((try unfold LIM at *); omega)) only [↓bcase_true, ↓bcase_false, WA, simprocAttr, wrap_i64, List.length_map, c2, hxv, pi, hk3, pk, hgv, fnV, c3', iV, cast_succ]
      intro _
      exact ⟨i + 1, ⟨⟨by omega, p2⟩, by omega⟩, [0, 1], by simp, ⟨.inl ⟨rfl, rfl⟩, .inl ⟨rfl, rfl⟩, trivial⟩, rfl, rfl, rfl⟩
  · have e3 : i = m.mains.length := by omega
    subst e3
    rw [List.drop_length] at p2
    have e2 : faultE m = firstE m.funs m.funs 0 := by simp [faultE, ← p2, mainE]
    simp +contextual (maxSteps := 2000000) (disch := ((try unfold LIM at *); omega)) only [↓bcase_true, ↓bcase_false, WA, simprocAttr, wrap_i64, c2, List.length_map, e2]
    intro hl2
    refine LoopThen.own (ι := Nat) (fun i => i ≤ m.funs.length ∧ firstE m.funs (m.funs.drop i) i = firstE m.funs m.funs 0)
      (fun i => [(1, .ptr 0 0 0), (2, .ptr 1 0 0), (4, .s (.int .i64 i))])
      (fun _ => [⟨[[.f 6 (m.funs.map fnV), .f 1 (m.mains.map iV)]], 2, 1, true⟩, ⟨[[.s (.int .i64 0), .s (.int .i64 0), .s (.int .i64 0)]], 3, 1, true⟩]) (fun i => m.funs.length - i) 1000 1000
      ⟨0, ⟨Nat.zero_le _, by simp⟩, [0, 1], by simp, by simp +contextual (maxSteps := 2000000) (disch := ((try unfold LIM at *); omega)) only [↓bcase_true, ↓bcase_false, WA, simprocAttr, wrap_i64], by simp +contextual (maxSteps := 2000000) (disch := ((try unfold LIM at *); omega)) only [↓bcase_true, ↓bcase_false, WA, simprocAttr, wrap_i64, nm_at]⟩ ?_
    rintro i ⟨r1, r2⟩
    by_cases c4 : (i : Int) < m.funs.length
    · obtain ⟨f, hf⟩ := get_lt c4
      rw [drop_cons hf] at r2
      simp only [firstE] at r2
      simp +contextual (maxSteps := 2000000) (disch := ((try unfold LIM at *); omega)) only [↓bcase_true, ↓bcase_false, WA, simprocAttr, wrap_i64, c4, List.length_map]
      refine fun _ => CallThen.of 1000 (CallsV.frameL (calls20 m i f hf i1 i2) [] _ (by simp) trivial rfl) fun res h' ⟨r, h1, q1, q2, q3, q4⟩ => ?_
      subst q3; subst q4
      cases e : sureE m.funs f with
      | ok ats =>
        rw [e] at r2
        simp only [funR, e] at q1
        obtain ⟨rfl, rfl⟩ := q1
        simp +contextual (maxSteps := 2000000) (disch := ((try unfold LIM at *); omega)) only [↓bcase_true, ↓bcase_false, WA, simprocAttr, wrap_i64, rnRes, rnB_cat, rnB_sp, spB, cast_succ]
        exact ⟨i + 1, ⟨⟨by omega, r2⟩, by omega⟩, [0, 1], by simp, ⟨.inl ⟨rfl, rfl⟩, .inl ⟨rfl, rfl⟩, trivial⟩, rfl, rfl, rfl⟩
      | error c =>
        rw [e] at r2
        simp only [funR, e] at q1
        obtain ⟨ats, n, rfl, rfl⟩ := q1
        have ps : 0 < c.1 := sureE_pos e
        simp only at r2
        simp +contextual (maxSteps := 2000000) (disch := ((try unfold LIM at *); omega)) only [↓bcase_true, ↓bcase_false, WA, simprocAttr, wrap_i64, rnRes, rnB_cat, rnB_sp, spB, ps, ← r2, fltV]
    · have e3 : i = m.funs.length := by omega
      subst e3
      rw [List.drop_length] at r2
      simp only [firstE] at r2
      simp +contextual (maxSteps := 2000000) (disch := ((try unfold LIM at *); omega)) only [↓bcase_true, ↓bcase_false, WA, simprocAttr, wrap_i64, c4, ← r2, fltV, List.length_map]
end Go.Proofs.YtijefmjfdhfjmaaDoor
