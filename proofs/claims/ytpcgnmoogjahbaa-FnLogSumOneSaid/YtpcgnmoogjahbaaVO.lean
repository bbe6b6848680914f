/- A layer for walking through code on abstract values and an abstract heap: its definitions and their soundness; no condition. -/
import Derived.Test.YtpcgnmoogjahbaaVN
set_option linter.unusedVariables false
set_option linter.unusedSimpArgs false
namespace Go.VL
open Go Go.RowKit

section
variable {P : Program}

def notTup : V → Bool
  | .tup _ => false
  | _ => true

def resW (P : Program) (τ : Tau) (h : H) : List ResultVar → (List V → Prop) → Prop
  | [], K => K []
  | .tmp t :: rs, K => resW P τ h rs fun vs => K (τ t :: vs)
  | .cell a t :: rs, K => match τ a with
    | .ptr b off => match tAgg P t with
      | some true => match tSz P t with
        | some n => match h.rdN b off n with
          | some cs => b < h.n ∧ resW P τ h rs fun vs => K (.agg cs :: vs)
          | none => False
        | none => False
      | some false => match h.rd b off with
        | some v => (b < h.n ∧ notTup v = true) ∧ resW P τ h rs fun vs => K (v :: vs)
        | none => False
      | none => False
    | _ => False

def tupOf (R : Res → H → Prop) (h : H) : List V → Prop
  | [v] => R (.ret v) h
  | vs => vs.all notTup = true ∧ R (.ret (.tup vs)) h

def bodyQ (P : Program) (fn : Func) (R : Res → H → Prop) : QT
  | .normal, τ, h => resW P τ h fn.results.toList (tupOf R h)
  | .ret, τ, h => resW P τ h fn.results.toList (tupOf R h)
  | .pan v, τ, h => R (.pan v) h
  | .exit _, _, _ => False

def argsT (args : List V) : Tau := fun t => args.getD t .any

theorem argsT_rel {φ : Phi} {args : List V} {vs : Array Value} {k : Nat} (h : All2 (RelV φ) args vs.toList) : RelT φ (argsT args) { tmps := vs ++ Array.replicate k undef, defers := [] } := by
  intro t
  have hl := h.length
  simp at hl
  unfold argsT
  rw [List.getD_eq_getElem?_getD]
  by_cases ht : t < args.length
  · rw [List.getElem?_eq_getElem ht]
    obtain ⟨v, h1, h2⟩ := h.get t _ (List.getElem?_eq_getElem ht)
    have : (vs ++ Array.replicate k undef).getD t undef = v := by
      rw [Array.getD_eq_getD_getElem?, Array.getElem?_append_left (by omega)]
      rw [Array.getElem?_toList] at h1
      rw [h1]; rfl
    simp only [this, Option.getD_some]; exact h2
  · rw [List.getElem?_eq_none (by omega)]; trivial

theorem relQ_of_relV {φ : Phi} {x : V} {v : Value} (hn : notTup x = true) (r : RelV φ x v) : RelQ φ x v := by
  cases x with
  | tup vs => cases hn
  | _ => exact r

/-- The results are read. -/
theorem resW_sound {B : Nat} {w0 : World} {φ : Phi} {h : H} {w : World} {τ : Tau} {a : Act} (R : Rel B w0 φ h w) (T : RelT φ τ a) : ∀ (rs : List ResultVar) (K : List V → Prop), resW P τ h rs K →
    ∃ vs cs, (rs.mapM (m := Sem) fun | .tmp t => pure (a.tmps.getD t undef) | .cell p t => do loadVar t (← asAddr (a.tmps.getD p undef))).run P w = .ok cs w ∧ All2 (RelV φ) vs cs ∧ K vs
  | [], K, hk => ⟨[], [], rfl, trivial, hk⟩
  | .tmp t :: rs, K, hk => by
    simp only [resW] at hk
    obtain ⟨vs, cs, h1, h2, h3⟩ := resW_sound R T rs _ hk
    refine ⟨τ t :: vs, a.tmps.getD t undef :: cs, ?_, ⟨T t, h2⟩, h3⟩
    rw [List.mapM_cons]
    simp only [Sem.run_bind, Sem.run_pure, Result.andThen_ok, h1]
  | .cell p t :: rs, K, hk => by
    simp only [resW] at hk
    have ep := T p
    split at hk
    · rename_i b off e
      rw [e] at ep
      obtain ⟨blk, base, hp, hv⟩ := ptr_rel ep
      split at hk
      · rename_i ha
        split at hk
        · rename_i n hn
          split at hk
          · rename_i cs' hcs
            obtain ⟨hb, hk⟩ := hk
            obtain ⟨h1, l, h2, h3, h4⟩ := rdN_cells R hb hcs
            have hl := run_loadCells_list (P := P) w ⟨blk, base + off, none⟩ l (fun j v e => by rw [addr_add]; exact h4 blk base hp j v e)
            obtain ⟨vs, cs, q1, q2, q3⟩ := resW_sound R T rs _ hk
            refine ⟨.agg cs' :: vs, .agg l.toArray :: cs, ?_, ⟨⟨l.toArray, rfl, by simpa using h3⟩, q2⟩, q3⟩
            have hlv : (do loadVar t (← asAddr (a.tmps.getD p undef)) : Sem Value).run P w = .ok (.agg l.toArray) w := by
              simp only [hv, asAddr, Sem.run_bind, Sem.run_pure, Result.andThen_ok, loadVar, run_agg ha, if_true, run_sz hn, ← h2, hl]
            rw [List.mapM_cons, Sem.run_bind]
            show Result.andThen (Sem.run P (do loadVar t (← asAddr (a.tmps.getD p undef)) : Sem Value) w) _ = _
            rw [hlv]
            simp only [Result.andThen_ok, Sem.run_bind, q1, Sem.run_pure]
          · exact hk.elim
        · exact hk.elim
      · rename_i ha
        split at hk
        · rename_i v hr
          obtain ⟨⟨hb, hnt⟩, hk⟩ := hk
          obtain ⟨blk', base', q1, c, q2, q3⟩ := rd_cell R hb hr
          rw [hp] at q1; obtain ⟨rfl, rfl⟩ := Prod.mk.inj (Option.some.inj q1)
          obtain ⟨vs, cs, p1, p2, p3⟩ := resW_sound R T rs _ hk
          refine ⟨v :: vs, c :: cs, ?_, ⟨relV_of_relC q3, p2⟩, p3⟩
          have hlv : (do loadVar t (← asAddr (a.tmps.getD p undef)) : Sem Value).run P w = .ok c w := by
            simp [hv, asAddr, loadVar, run_agg ha, q2]
          rw [List.mapM_cons, Sem.run_bind]
          show Result.andThen (Sem.run P (do loadVar t (← asAddr (a.tmps.getD p undef)) : Sem Value) w) _ = _
          rw [hlv]
          simp only [Result.andThen_ok, Sem.run_bind, p1, Sem.run_pure]
        · exact hk.elim
      · exact hk.elim
    · exact hk.elim

theorem results_run {B : Nat} {w0 : World} {φ : Phi} {h : H} {w : World} {τ : Tau} {a : Act} {fn : Func} {R : Res → H → Prop} (Rl : Rel B w0 φ h w) (T : RelT φ τ a)
    (hk : resW P τ h fn.results.toList (tupOf R h)) : ∃ v r, (results fn a.tmps).run P w = .ok v w ∧ ResRel φ r (.returned v) ∧ R r h := by
  obtain ⟨vs, cs, h1, h2, h3⟩ := resW_sound Rl T _ _ hk
  have hl := h2.length
  have hrun : (fn.results.mapM (m := Sem) fun | .tmp t => pure (a.tmps.getD t undef) | .cell p t => do loadVar t (← asAddr (a.tmps.getD p undef))).run P w = .ok cs.toArray w := by
    rw [Array.mapM_eq_mapM_toList, Sem.run_map, h1]; rfl
  have key : (results fn a.tmps).run P w = .ok (if hh : cs.toArray.size = 1 then cs.toArray[0] else .tuple cs.toArray) w := by
    unfold results
    rw [Sem.run_bind]
    exact (congrArg (fun r => Result.andThen r fun (vs : Array Value) w => (pure (if h : vs.size = 1 then vs[0] else .tuple vs) : Sem Value).run P w) hrun).trans rfl
  match vs, cs, h2, h3, hl, key with
  | [v], [c], h2, h3, _, key => exact ⟨c, .ret v, by rw [key, dif_pos (by simp)]; simp, ⟨c, rfl, h2.1⟩, h3⟩
  | [], [], h2, h3, _, key => exact ⟨.tuple #[], .ret (.tup []), by rw [key, dif_neg (by simp)], ⟨_, rfl, ⟨_, rfl, trivial⟩⟩, h3.2⟩
  | v :: v' :: vs, c :: c' :: cs, h2, h3, _, key =>
    refine ⟨.tuple (c :: c' :: cs).toArray, .ret (.tup (v :: v' :: vs)), by rw [key, dif_neg (by simp)], ⟨_, rfl, ⟨_, rfl, ?_⟩⟩, h3.2⟩
    have hq := h3.1
    have : ∀ {vs : List V} {cs : List Value}, vs.all notTup = true → All2 (RelV φ) vs cs → All2 (RelQ φ) vs cs := by
      intro vs
      induction vs with
      | nil => intro cs _ h; cases cs <;> exact h
      | cons x xs ih =>
        intro cs hn h
        cases cs with
        | nil => exact h
        | cons c cs => simp only [List.all_cons, Bool.and_eq_true] at hn; exact ⟨relQ_of_relV hn.1 h.1, ih hn.2 h.2⟩
    exact this hq h2

/-- A function is entered. -/
theorem calls_of_run {f : Nat} {fn : Func} {c : Code} {args : List V} {h : H} {R : Res → H → Prop} (hf : P.funcs[f]? = some fn) (hb : fn.body = some c) (hn : enters P f = true)
    (hc : codeOk fn.ntmps c = true) (hl : args.length ≤ fn.ntmps) (n : Nat) (hr : Run P fn.ntmps n (bodyQ P fn R) [.code c] (argsT args) h) : CallsV P f args h R := by
  refine ⟨hn, fun B w0 φ vs w Rl ha => ?_⟩
  refine calls_of_wp hf hb ?_
  have hlen := ha.length
  simp at hlen
  have hsem := Run_sound n [.code c] (argsT args) h (by simp [itOk, hc]) hr
  have := hsem B w0 φ { tmps := vs ++ Array.replicate (fn.ntmps - vs.size) undef, defers := [] } w Rl (argsT_rel ha) (by simp; omega)
  refine wp_mono this ?_
  rintro e a w' ⟨x, τ, h', φ', p1, p2, p3, p4, p5, p6, p7⟩
  cases x with
  | normal =>
    simp only [XRel] at p1; subst p1
    obtain ⟨v, r, q1, q2, q3⟩ := results_run p2 p4 p7
    exact ⟨p6, v, q1, r, φ', h', q2, p2, p3, q3⟩
  | ret =>
    simp only [XRel] at p1; subst p1
    obtain ⟨v, r, q1, q2, q3⟩ := results_run p2 p4 p7
    exact ⟨p6, v, q1, r, φ', h', q2, p2, p3, q3⟩
  | exit id => exact p7.elim
  | pan v =>
    obtain ⟨u, rfl, q⟩ := p1
    exact ⟨p6, .pan v, φ', h', ⟨u, rfl, q⟩, p2, p3, p7⟩

end
end Go.VL
