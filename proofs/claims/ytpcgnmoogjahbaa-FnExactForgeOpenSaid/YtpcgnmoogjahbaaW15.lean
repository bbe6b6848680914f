/- A layer for walking through code on abstract values, told apart by who owns the memory: its definitions and their soundness; no condition. -/
import Derived.Test.YtpcgnmoogjahbaaW14
set_option linter.unusedVariables false
set_option linter.unusedSimpArgs false
namespace Go.W
open Go Go.RowKit

section
variable {C : Cx} {N n0 : Nat} {Q : QT} {τ τ' : Tau} {h h' : H} {k : List It}

theorem semK_pan {v : V} : ∀ {k : List It}, Q (.pan v) τ h → SemK C N n0 Q k (.pan v) τ h
  | [], hq => hq
  | .code _ :: k, hq => semK_pan (k := k) hq
  | .ops _ _ :: k, hq => semK_pan (k := k) hq
  | .blk _ :: k, hq => semK_pan (k := k) hq
theorem semK_pan' {v : V} : ∀ {k : List It}, SemK C N n0 Q k (.pan v) τ h → Q (.pan v) τ h
  | [], hq => hq
  | .code _ :: k, hq => semK_pan' (k := k) hq
  | .ops _ _ :: k, hq => semK_pan' (k := k) hq
  | .blk _ :: k, hq => semK_pan' (k := k) hq
theorem semK_ret : ∀ {k : List It}, Q .ret τ h → SemK C N n0 Q k .ret τ h
  | [], hq => hq
  | .code _ :: k, hq => semK_ret (k := k) hq
  | .ops _ _ :: k, hq => semK_ret (k := k) hq
  | .blk _ :: k, hq => semK_ret (k := k) hq
theorem semK_exit {id : Nat} : ∀ {k : List It}, (match popTo id k with | some k' => SemK C N n0 Q k' .normal τ h | none => Q (.exit id) τ h) → SemK C N n0 Q k (.exit id) τ h
  | [], hq => hq
  | .code _ :: k, hq => semK_exit (k := k) hq
  | .ops _ _ :: k, hq => semK_exit (k := k) hq
  | .blk id' :: k, hq => by
    simp only [popTo] at hq
    simp only [SemK]
    by_cases e : id = id'
    · rw [if_pos e] at hq ⊢; exact hq
    · rw [if_neg e] at hq ⊢; exact semK_exit (k := k) hq

theorem popTo_ok {id : Nat} : ∀ {k k' : List It}, popTo id k = some k' → k.all (itOk N) = true → k'.all (itOk N) = true
  | [], _, h, _ => by cases h
  | .code _ :: k, k', h, ho => by simp only [List.all_cons, Bool.and_eq_true] at ho; exact popTo_ok (k := k) h ho.2
  | .ops _ _ :: k, k', h, ho => by simp only [List.all_cons, Bool.and_eq_true] at ho; exact popTo_ok (k := k) h ho.2
  | .blk id' :: k, k', h, ho => by
    simp only [List.all_cons, Bool.and_eq_true] at ho
    simp only [popTo] at h
    split at h
    · obtain rfl := Option.some.inj h; exact ho.2
    · exact popTo_ok (k := k) h ho.2

theorem Did.mono {P : Program} {o : Oper} {a : Act} {w : World} {S : Nat → Prop} {w0 : World} {φ : Phi} {n : Nat} {K K' : V → H → Prop} (d : Did P o a w S w0 φ n K) (hk : ∀ v h, K v h → K' v h) : Did P o a w S w0 φ n K' := by
  obtain ⟨φ', x, h', w', q1, q2, q3, q4, q5⟩ := d
  exact ⟨φ', x, h', w', q1, q2, q3, hk _ _ q4, q5⟩

theorem Run_sound : ∀ (n : Nat) (Q : QT) (k : List It) (τ : Tau) (h : H), k.all (itOk N) = true → Run C N n0 n Q k τ h → SemK C N n0 Q k .normal τ h
  | 0, _, _, _, _, _, hr => by simp only [Run] at hr
  | n + 1, Q, [], τ, h, _, hr => by simp only [Run] at hr; exact hr
  | n + 1, Q, .blk id :: k, τ, h, ho, hr => by
    simp only [List.all_cons, Bool.and_eq_true] at ho
    simp only [Run] at hr
    exact Run_sound n Q k τ h ho.2 hr
  | n + 1, Q, .code c :: k, τ, h, ho, hr => by
    simp only [List.all_cons, Bool.and_eq_true, itOk] at ho
    show WC C N n0 c (SemK C N n0 Q k) τ h
    cases c with
    | skip => simp only [Run] at hr; exact fun S w0 φ a w G R hn T hN => wp_skip ⟨.normal, τ, h, φ, rfl, R, ExtN.refl .., hn, T, hN, rfl, Run_sound n Q k τ h ho.2 hr⟩
    | label l => simp only [Run] at hr; exact fun S w0 φ a w G R hn T hN => wp_label ⟨.normal, τ, h, φ, rfl, R, ExtN.refl .., hn, T, hN, rfl, Run_sound n Q k τ h ho.2 hr⟩
    | seq x y =>
      simp only [Run] at hr
      simp only [codeOk, Bool.and_eq_true] at ho
      have := Run_sound n Q (.code x :: .code y :: k) τ h (by simp only [List.all_cons, itOk, ho.1.1, ho.1.2, ho.2, Bool.and_self]) hr
      refine WC.seq (WC.mono this fun x τ h q => ?_)
      cases x with
      | normal => exact q
      | exit id => exact q
      | ret => exact q
      | pan v => exact q
    | block id x =>
      simp only [Run] at hr
      simp only [codeOk] at ho
      have := Run_sound n Q (.code x :: .blk id :: k) τ h (by simp only [List.all_cons, itOk, ho.1, ho.2, Bool.and_self]) hr
      refine WC.block (WC.mono this fun x τ h q => ?_)
      cases x with
      | normal => exact q
      | exit id => exact q
      | ret => exact q
      | pan v => exact q
    | cond c x y =>
      simp only [Run] at hr
      simp only [codeOk, Bool.and_eq_true] at ho
      unfold condR at hr
      split at hr
      · rename_i b hb
        exact WC.cond ho.1.1 hb
          (fun e => Run_sound n Q (.code x :: k) τ h (by simp only [List.all_cons, itOk, ho.1.2.1, ho.2, Bool.and_self]) (hr.1 e))
          (fun e => Run_sound n Q (.code y :: k) τ h (by simp only [List.all_cons, itOk, ho.1.2.2, ho.2, Bool.and_self]) (hr.2 e))
      · exact hr.elim
    | region id ops draw =>
      simp only [codeOk] at ho
      cases draw with
      | true => simp only [Run] at hr; exact hr ho.1 ho.2
      | false =>
        simp only [Run] at hr
        have hall : ops.toList.all (opOk N) = true := by rw [Array.all_toList]; exact ho.1
        exact WC.region (Run_sound n Q (.ops ops.toList ops.toList :: k) τ h (by simp only [List.all_cons, itOk, hall, ho.2, Bool.and_self]) hr)
    | loop x => simp only [Run] at hr; simp only [codeOk] at ho; exact hr ho.1 ho.2
    | exit id =>
      simp only [Run] at hr
      refine fun S w0 φ a w G R hn T hN => wp_exit ⟨.exit id, τ, h, φ, rfl, R, ExtN.refl .., hn, T, hN, rfl, semK_exit ?_⟩
      cases hp : popTo id k with
      | none => rw [hp] at hr; exact hr
      | some k' => rw [hp] at hr; exact Run_sound n Q k' τ h (popTo_ok hp ho.2) hr
    | ret => simp only [Run] at hr; exact fun S w0 φ a w G R hn T hN => wp_ret ⟨.ret, τ, h, φ, rfl, R, ExtN.refl .., hn, T, hN, rfl, semK_ret hr⟩
    | rangeFunc f ps x y => simp only [Run] at hr
    | scope x => simp only [Run] at hr
    | goto l => simp only [Run] at hr
    | refuse s => simp only [Run] at hr
  | n + 1, Q, .ops all [] :: k, τ, h, ho, hr => by
    simp only [List.all_cons, Bool.and_eq_true] at ho
    simp only [Run] at hr
    exact WO.nil (Run_sound n Q k τ h ho.2 hr)
  | n + 1, Q, .ops all (o :: os) :: k, τ, h, ho, hr => by
    simp only [List.all_cons, Bool.and_eq_true, itOk] at ho
    obtain ⟨⟨hall, hoo, hos⟩, hk⟩ := ho
    have hd := hoo
    simp only [opOk, Bool.and_eq_true] at hd
    have rest : ∀ τ h, Run C N n0 n Q (.ops all os :: k) τ h → WO C N n0 all os (SemK C N n0 Q k) τ h := fun τ h hr =>
      Run_sound n Q (.ops all os :: k) τ h (by simp only [List.all_cons, itOk, hall, hos, hk, Bool.and_self]) hr
    have hks : (It.ops all os :: k).all (itOk N) = true := by simp only [List.all_cons, itOk, hall, hos, hk, Bool.and_self]
    show WO C N n0 all (o :: os) (SemK C N n0 Q k) τ h
    have opd : o.guard = none → opW C τ h o.op (RunK (Run C N n0 n Q) (.ops all os :: k) o.dst τ) → WO C N n0 all (o :: os) (SemK C N n0 Q k) τ h := fun hg hw =>
      WO.step hg hd.1 fun S w0 φ a w G R T => (opW_sound (by have := hd.2; rw [← Array.all_toList] at this ⊢; exact this) R G T hw).mono fun v h' q => rest _ _ q
    obtain ⟨d, op, ty, pos, after, g⟩ := o
    cases g with
    | none =>
      simp only [Run] at hr
      unfold opRun at hr
      split at hr
      · -- a builtin
        rename_i b args ts
        unfold bltR at hr
        split at hr
        · unfold appR at hr
          split at hr
          · rename_i s x t u ha ht
            obtain ⟨p, q, e3, rfl, rfl⟩ := evs_two ha
            exact WO.step rfl hd.1 fun S w0 φ a w G R T => (sem_append (c := ⟨.builtin .append, args, ts⟩) rfl rfl e3 ht (call_args rfl rfl hoo) R G T hr).mono fun v h' q => rest _ _ q
          · exact hr.elim
        · unfold copyR at hr
          split at hr
          · rename_i s x t u ha ht
            obtain ⟨p, q, e3, rfl, rfl⟩ := evs_two ha
            exact WO.copy (c := ⟨.builtin .copy, args, ts⟩) rfl rfl rfl hoo e3 ht (hr hks)
          · exact hr.elim
        · unfold clearR at hr
          split at hr
          · rename_i s t ha ht
            obtain ⟨p, e3, rfl⟩ := evs_one ha
            exact WO.clear (c := ⟨.builtin .clear, args, ts⟩) rfl rfl rfl hoo e3 ht (hr hks)
          · exact hr.elim
        · exact WO.step rfl hd.1 fun S w0 φ a w G R T => ((builtinW_sound (c := ⟨.builtin _, args, ts⟩) rfl rfl (call_args rfl rfl hoo) G T hr).did R).mono fun v h' q => rest _ _ q
      · -- a call
        rename_i f args ts
        unfold callR at hr
        split at hr
        · rename_i f' caps hf
          exact WO.call (c := ⟨.value f, args, ts⟩) rfl rfl rfl hoo hf (hr hks)
        · exact hr.elim
      · exact hr.elim
      · rename_i x
        unfold panR at hr
        split at hr
        · rename_i t v hx
          exact WO.panic rfl rfl hoo hx (semK_pan hr)
        · exact hr.elim
      · exact opd rfl hr
    | some jw =>
      obtain ⟨j, want⟩ := jw
      simp only [Run] at hr
      have hoo' : opOk N ⟨d, op, ty, pos, after, none⟩ = true := hoo
      have withOp : ∀ τ h, Run C N n0 n Q (.ops all (⟨d, op, ty, pos, after, none⟩ :: os) :: k) τ h → WO C N n0 all (⟨d, op, ty, pos, after, none⟩ :: os) (SemK C N n0 Q k) τ h := fun τ h hr =>
        Run_sound n Q (.ops all (⟨d, op, ty, pos, after, none⟩ :: os) :: k) τ h (by simp only [List.all_cons, itOk, hall, hoo', hos, hk, Bool.and_self]) hr
      unfold guardR at hr
      split at hr
      · rename_i b hb
        refine WO.guarded (b := b) (want := true) rfl hall hd.1 hb (fun e => ?_) (fun e => ?_)
        · have q := hr.1 e; rw [gSet_want hb e] at q; exact withOp _ _ q
        · have e' : b = false := by simpa using e
          have q := hr.2 e'; rw [gSet_want hb e'] at q; exact rest _ _ q
      · rename_i b hb
        refine WO.guarded (b := b) (want := false) rfl hall hd.1 hb (fun e => ?_) (fun e => ?_)
        · have q := hr.2 e; rw [gSet_want hb e] at q; exact withOp _ _ q
        · have e' : b = true := by simpa using e
          have q := hr.1 e'; rw [gSet_want hb e'] at q; exact rest _ _ q
      · exact hr.elim

/-! ### The results, the entry -/
def notTup : V → Bool
  | .tup _ => false
  | _ => true
section
variable (C : Cx) (h : H)
def rsA (K : List V → Prop) (R : (List V → Prop) → Prop) : Option (List V) → Prop
  | some cs => cs.all cellOk = true ∧ R fun vs => K (.agg cs :: vs)
  | none => False
def rsC (K : List V → Prop) (R : (List V → Prop) → Prop) : Option V → Prop
  | some (.l _ _) => False
  | some (.lp _) => False
  | some v => notTup v = true ∧ R fun vs => K (v :: vs)
  | none => False
def rsT (K : List V → Prop) (R : (List V → Prop) → Prop) (b i o : Nat) : Option Bool → Option Nat → Prop
  | some true, some n => rsA K R (rdN (rdB (h[b]?) i) o n)
  | some false, _ => rsC K R (rdC (rdB (h[b]?) i) o)
  | _, _ => False
def rsP (K : List V → Prop) (R : (List V → Prop) → Prop) (t : TypeId) : V → Prop
  | .ptr b i o => rsT h K R b i o (tAgg C.P t) (tSz C.P t)
  | _ => False
def resW (τ : Tau) : List ResultVar → (List V → Prop) → Prop
  | [], K => K []
  | .tmp t :: rs, K => resW τ rs fun vs => K (τ t :: vs)
  | .cell a t :: rs, K => rsP C h K (resW τ rs) t (τ a)
end

/-- By a step without code the answer comes to one of which R holds. -/
def Up (n0 : Nat) (R : Res → H → Prop) : Res → H → Prop
  | .ret v, h => ∃ v' h' M, Arr n0 h h' M ∧ M v v' ∧ R (.ret v') h'
  | .pan v, h => ∃ v' h' M, Arr n0 h h' M ∧ M v v' ∧ R (.pan v') h'
theorem Up.refl {R : Res → H → Prop} {r : Res} (hr : R r h) : Up n0 R r h := by
  cases r with
  | ret v => exact ⟨v, h, _, Arr.refl n0 h, .inl rfl, hr⟩
  | pan v => exact ⟨v, h, _, Arr.refl n0 h, .inl rfl, hr⟩
def tupOf (n0 : Nat) (R : Res → H → Prop) (h : H) : List V → Prop
  | [v] => Up n0 R (.ret v) h
  | vs => vs.all notTup = true ∧ Up n0 R (.ret (.tup vs)) h
def bodyQ (C : Cx) (n0 : Nat) (fn : Func) (R : Res → H → Prop) : QT
  | .normal, τ, h => resW C h τ fn.results.toList (tupOf n0 R h)
  | .ret, τ, h => resW C h τ fn.results.toList (tupOf n0 R h)
  | .pan v, τ, h => Up n0 R (.pan v) h
  | .exit _, _, _ => False

def argsT : List V → Tau
  | [], _ => .any
  | v :: _, 0 => v
  | _ :: r, t + 1 => argsT r t

theorem argsT_get : ∀ (args : List V) (t : Nat), argsT args t = args.getD t .any
  | [], t => by simp [argsT]
  | v :: r, 0 => by simp [argsT]
  | v :: r, t + 1 => by simp only [argsT]; rw [argsT_get r t]; simp

theorem argsT_rel {φ : Phi} {args : List V} {vs : Array Value} {k : Nat} (h : All2 (RelV φ) args vs.toList) : RelT φ (argsT args) { tmps := vs ++ Array.replicate k undef, defers := [] } := by
  intro t
  have hl := h.length
  simp at hl
  rw [argsT_get, List.getD_eq_getElem?_getD]
  by_cases ht : t < args.length
  · rw [List.getElem?_eq_getElem ht]
    obtain ⟨v, h1, h2⟩ := h.get t _ (List.getElem?_eq_getElem ht)
    have : (vs ++ Array.replicate k undef).getD t undef = v := by
      rw [Array.getD_eq_getD_getElem?, Array.getElem?_append_left (by omega)]
      rw [Array.getElem?_toList] at h1
      rw [h1]; rfl
    simp only [this, Option.getD_some]; exact h2
  · rw [List.getElem?_eq_none (by omega)]; exact relV_any

theorem relQ_of_relV {φ : Phi} {x : V} {v : Value} (hn : notTup x = true) (r : RelV φ x v) : RelQ φ x v := by
  cases x with
  | tup vs => cases hn
  | _ => exact r

/-- The results are read. -/
theorem resW_sound {S : Nat → Prop} {w0 : World} {φ : Phi} {w : World} {a : Act} (R : Rel S w0 φ h w) (T : RelT φ τ a) : ∀ (rs : List ResultVar) (K : List V → Prop), resW C h τ rs K →
    ∃ vs cs, (rs.mapM (m := Sem) fun | .tmp t => pure (a.tmps.getD t undef) | .cell p t => do loadVar t (← asAddr (a.tmps.getD p undef))).run C.P w = .ok cs w ∧ All2 (RelV φ) vs cs ∧ K vs
  | [], K, hk => ⟨[], [], rfl, trivial, hk⟩
  | .tmp t :: rs, K, hk => by
    simp only [resW] at hk
    obtain ⟨vs, cs, h1, h2, h3⟩ := resW_sound R T rs _ hk
    refine ⟨τ t :: vs, a.tmps.getD t undef :: cs, ?_, ⟨T t, h2⟩, h3⟩
    rw [List.mapM_cons]
    simp only [Sem.run_bind, Sem.run_pure, Result.andThen_ok, h1]
  | .cell p t :: rs, K, hk => by
    simp only [resW] at hk
    have ep := T p
    unfold rsP at hk
    split at hk
    · rename_i b i o e
      rw [e] at ep
      obtain ⟨k, n, hp, hv⟩ := ptr_rel ep
      obtain ⟨F, RF⟩ := R
      unfold rsT at hk
      split at hk
      · rename_i m ha hm
        unfold rsA at hk
        split at hk
        · rename_i cs' hcs
          obtain ⟨hok, hk⟩ := hk
          obtain ⟨h1, l, h2, h3, h4⟩ := RF.agg hp hcs hok
          have hl := run_loadCells_list (P := C.P) w ⟨k, i * n + o, none⟩ l (fun j v e => by rw [addr_add]; exact h4 j v e)
          obtain ⟨vs, cs, q1, q2, q3⟩ := resW_sound ⟨F, RF⟩ T rs _ hk
          refine ⟨.agg cs' :: vs, .agg l.toArray :: cs, ?_, ⟨⟨l.toArray, rfl, by simpa using h3⟩, q2⟩, q3⟩
          have hlv : (do loadVar t (← asAddr (a.tmps.getD p undef)) : Sem Value).run C.P w = .ok (.agg l.toArray) w := by
            simp only [hv, asAddr, Sem.run_bind, Sem.run_pure, Result.andThen_ok, loadVar, run_agg ha, if_true, run_sz hm, ← h2, hl]
          rw [List.mapM_cons, Sem.run_bind]
          show Result.andThen (Sem.run C.P (do loadVar t (← asAddr (a.tmps.getD p undef)) : Sem Value) w) _ = _
          rw [hlv]
          simp only [Result.andThen_ok, Sem.run_bind, q1, Sem.run_pure]
        · exact hk.elim
      · rename_i ha
        unfold rsC at hk
        split at hk
        · exact hk.elim
        · exact hk.elim
        · rename_i v hl hlp hr
          obtain ⟨hnt, hk⟩ := hk
          obtain ⟨c, q2, q3⟩ := rel_place RF hp hr (fun m e q => hl m e q) (fun cs q => hlp cs q)
          obtain ⟨vs, cs, p1, p2, p3⟩ := resW_sound ⟨F, RF⟩ T rs _ hk
          refine ⟨v :: vs, c :: cs, ?_, ⟨relV_of_relC q3, p2⟩, p3⟩
          have hlv : (do loadVar t (← asAddr (a.tmps.getD p undef)) : Sem Value).run C.P w = .ok c w := by
            simp [hv, asAddr, loadVar, run_agg ha, q2]
          rw [List.mapM_cons, Sem.run_bind]
          show Result.andThen (Sem.run C.P (do loadVar t (← asAddr (a.tmps.getD p undef)) : Sem Value) w) _ = _
          rw [hlv]
          simp only [Result.andThen_ok, Sem.run_bind, p1, Sem.run_pure]
        · exact hk.elim
      · exact hk.elim
    · exact hk.elim

theorem results_run {S : Nat → Prop} {w0 : World} {φ : Phi} {w : World} {a : Act} {fn : Func} {R : Res → H → Prop} (Rl : Rel S w0 φ h w) (T : RelT φ τ a)
    (hk : resW C h τ fn.results.toList (tupOf n0 R h)) : ∃ v r, (results fn a.tmps).run C.P w = .ok v w ∧ ResRel φ r (.returned v) ∧ Up n0 R r h := by
  obtain ⟨vs, cs, h1, h2, h3⟩ := resW_sound Rl T _ _ hk
  have hl := h2.length
  have hrun : (fn.results.mapM (m := Sem) fun | .tmp t => pure (a.tmps.getD t undef) | .cell p t => do loadVar t (← asAddr (a.tmps.getD p undef))).run C.P w = .ok cs.toArray w := by
    rw [Array.mapM_eq_mapM_toList, Sem.run_map, h1]; rfl
  have key : (results fn a.tmps).run C.P w = .ok (if hh : cs.toArray.size = 1 then cs.toArray[0] else .tuple cs.toArray) w := by
    unfold results
    rw [Sem.run_bind]
    exact (congrArg (fun r => Result.andThen r fun (vs : Array Value) w => (pure (if h : vs.size = 1 then vs[0] else .tuple vs) : Sem Value).run C.P w) hrun).trans rfl
  match vs, cs, h2, h3, hl, key with
  | [v], [c], h2, h3, _, key => exact ⟨c, .ret v, by rw [key, dif_pos (by simp)]; simp, ⟨c, rfl, h2.1⟩, h3⟩
  | [], [], h2, h3, _, key => exact ⟨.tuple #[], .ret (.tup []), by rw [key, dif_neg (by simp)], ⟨_, rfl, ⟨_, rfl, trivial⟩⟩, h3.2⟩
  | v :: v' :: vs, c :: c' :: cs, h2, h3, _, key =>
    refine ⟨.tuple (c :: c' :: cs).toArray, .ret (.tup (v :: v' :: vs)), by rw [key, dif_neg (by simp)], ⟨_, rfl, ⟨_, rfl, ?_⟩⟩, h3.2⟩
    have hq := h3.1
    have : ∀ {vs : List V} {cs : List Value}, vs.all notTup = true → All2 (RelV φ) vs cs → All2 (RelQ φ) vs cs := by
      intro vs
      induction vs with
      | nil => intro cs _ h; cases cs <;> exact h
      | cons x xs ih =>
        intro cs hn h
        cases cs with
        | nil => exact h
        | cons c cs => simp only [List.all_cons, Bool.and_eq_true] at hn; exact ⟨relQ_of_relV hn.1 h.1, ih hn.2 h.2⟩
    exact this hq h2

/-- A function is entered. -/
theorem calls_of_run {f : Nat} {fn : Func} {c : Code} {args : List V} {R : Res → H → Prop} (hf : C.P.funcs[f]? = some fn) (hb : fn.body = some c) (hn : enters C.P f = true)
    (hc : codeOk fn.ntmps c = true) (hl : args.length ≤ fn.ntmps) (n : Nat) (hr : Run C fn.ntmps h.length n (bodyQ C h.length fn R) [.code c] (argsT args) h) : CallsV C f args h R := by
  intro S w0 φ vs w G Rl ha
  refine .inl ⟨hn, ?_⟩
  refine calls_of_wp hf hb ?_
  have hlen := ha.length
  simp at hlen
  have hsem := Run_sound n _ [.code c] (argsT args) h (by simp [itOk, hc]) hr
  have := hsem S w0 φ { tmps := vs ++ Array.replicate (fn.ntmps - vs.size) undef, defers := [] } w G Rl (Nat.le_refl _) (argsT_rel ha) (by simp; omega)
  refine wp_mono this ?_
  rintro e a w' ⟨x, τ, h', φ', p1, p2, p3, p4, p5, p6, p7, p8⟩
  have fin : ∀ {v : Value} {r : Res}, ResRel φ' r (.returned v) → Up h.length R r h' → ∃ r φ'' h'', ResRel φ'' r (.returned v) ∧ Rel S w0 φ'' h'' w' ∧ ExtN S w0 h.length φ φ'' ∧ h.length ≤ h''.length ∧ R r h'' := by
    intro v r q2 q3
    cases r with
    | ret x =>
      obtain ⟨v', h'', M, ar, hm, hR⟩ := q3
      obtain ⟨φ'', R'', e'', hn'', m''⟩ := ar S w0 φ' w' p2 p4
      obtain ⟨cv, e, rv⟩ := q2
      exact ⟨.ret v', φ'', h'', ⟨cv, e, m'' _ _ _ hm rv⟩, R'', p3.trans e'', hn'', hR⟩
    | pan x => obtain ⟨cv, e, rv⟩ := q2; cases e
  cases x with
  | normal =>
    simp only [XRel] at p1; subst p1
    obtain ⟨v, r, q1, q2, q3⟩ := results_run p2 p5 p8
    exact ⟨p7, v, q1, fin q2 q3⟩
  | ret =>
    simp only [XRel] at p1; subst p1
    obtain ⟨v, r, q1, q2, q3⟩ := results_run p2 p5 p8
    exact ⟨p7, v, q1, fin q2 q3⟩
  | exit id => exact p8.elim
  | pan v =>
    obtain ⟨u, rfl, q⟩ := p1
    obtain ⟨v', h'', M, ar, hm, hR⟩ := p8
    obtain ⟨φ'', R'', e'', hn'', m''⟩ := ar S w0 φ' w' p2 p4
    exact ⟨p7, .pan v', φ'', h'', ⟨u, rfl, m'' _ _ _ hm q⟩, R'', p3.trans e'', hn'', hR⟩

/-! ### Stops -/
/-- What a round of a loop must come to. -/
def loopQ (C : Cx) (N n0 m : Nat) (Q : QT) (k : List It) (I : Tau → H → Prop) : QT
  | .normal, τ, h => Goes n0 I τ h
  | .exit id, τ, h => exitK (Run C N n0 m Q) Q id τ h (popTo id k)
  | .ret, τ, h => Q .ret τ h
  | .pan v, τ, h => Q (.pan v) τ h

theorem LoopThen.of {body : Code} (I : Tau → H → Prop) (μ : Tau → H → Nat) (m n : Nat) (h0 : Goes n0 I τ h)
    (hr : ∀ τ h, I τ h → Run C N n0 n (loopQ C N n0 m Q k fun τ' h' => I τ' h' ∧ μ τ' h' < μ τ h) [.code body] τ h) : LoopThen C N n0 Q body k τ h := by
  intro hb hk
  refine WC.loop I μ h0 fun τ h hI => ?_
  have := Run_sound n _ [.code body] τ h (by simp [itOk, hb]) (hr τ h hI)
  refine WC.mono this fun x τ' h' q => ?_
  cases x with
  | normal => exact q
  | exit id =>
    refine semK_exit ?_
    simp only [SemK, loopQ] at q
    cases hp : popTo id k with
    | none => rw [hp] at q; exact q
    | some k' => rw [hp] at q; exact Run_sound m Q k' τ' h' (popTo_ok hp hk) q
  | ret => exact semK_ret q
  | pan v => exact semK_pan q

/-- What a call must come to. -/
def callQ (C : Cx) (N n0 m : Nat) (Q : QT) (k : List It) (d : Option Nat) (τ : Tau) : Res → H → Prop
  | .ret v, h => Run C N n0 m Q k (upo d v τ) h
  | .pan v, h => Q (.pan v) τ h
theorem CallThen.of {f : Nat} {args : List V} {d : Option Nat} {R : Res → H → Prop} (m : Nat) (hc : CallsV C f args h R)
    (hr : ∀ r h', R r h' → callQ C N n0 m Q k d τ r h') : CallThen C N n0 Q f args d k τ h := by
  intro hk S w0 φ a vs w G Rl hn T ha
  refine (hc S w0 φ vs w G Rl ha).mono fun e w' ⟨r, φ', h', p1, p2, p3, p4, p5⟩ => ?_
  exact ⟨r, τ, φ', h', p1, p2, p3.mono hn, by omega, T.ext (Rl.ext p3), by
    have q := hr r h' p5
    cases r with
    | ret v => exact Run_sound m Q k _ _ hk q
    | pan v => exact semK_pan q⟩

/-- A step without code ahead of a call. -/
theorem CallThen.arr {f : Nat} {args args' : List V} {d : Option Nat} {M : V → V → Prop} (ar : Arr n0 h h' M) (ha : All2 M args args') (ht : ∀ t, M (τ t) (τ' t)) (hc : CallThen C N n0 Q f args' d k τ' h') : CallThen C N n0 Q f args d k τ h := by
  intro hk S w0 φ a vs w G Rl hn T hargs
  obtain ⟨φ', R', e', hn', m'⟩ := ar S w0 φ w Rl hn
  have hargs' : All2 (RelV φ') args' vs.toList := by
    have key : ∀ {xs ys : List V} {us : List Value}, All2 M xs ys → All2 (RelV φ) xs us → All2 (RelV φ') ys us := by
      intro xs
      induction xs with
      | nil => intro ys us h1 h2; cases ys <;> cases us <;> first | trivial | exact h1.elim | exact h2.elim
      | cons x xs ih =>
        intro ys us h1 h2
        cases ys with
        | nil => exact h1.elim
        | cons y ys =>
          cases us with
          | nil => exact h2.elim
          | cons u us => exact ⟨m' _ _ _ h1.1 h2.1, ih h1.2 h2.2⟩
    exact key ha hargs
  refine (hc hk S w0 φ' a vs w (G.mono e'.z) R' hn' (fun t => m' _ _ _ (ht t) (T t)) hargs').mono fun e w' ⟨r, τ1, φ1, h1, p1, p2, p3, p4, p5, p6⟩ => ?_
  exact ⟨r, τ1, φ1, h1, p1, p2, e'.trans p3, p4, p5, p6⟩
theorem LoopThen.arr {body : Code} {M : V → V → Prop} (ar : Arr n0 h h' M) (ht : ∀ t, M (τ t) (τ' t)) (hc : LoopThen C N n0 Q body k τ' h') : LoopThen C N n0 Q body k τ h :=
  fun hb hk => WC.arr ar ht (hc hb hk)

theorem CopyThen.of {s x : V} {t u : TypeId} {d : Option Nat} {R : V → H → Prop} (m : Nat) (hc : CopyV C h s x t u R) (hr : ∀ v h', R v h' → Run C N n0 m Q k (upo d v τ) h') :
    CopyThen C N n0 Q s x t u d k τ h := by
  intro hk S w0 φ w sv xv ty R1 r1 r2
  obtain ⟨v, w', φ', r, h', q1, q2, q3, q4, q5, q6⟩ := hc S w0 φ w sv xv ty R1 r1 r2
  exact ⟨v, w', φ', r, h', q1, q2, q3, q4, q5, Run_sound m Q k _ _ hk (hr _ _ q6)⟩
theorem ClearThen.of {s : V} {t : TypeId} {d : Option Nat} {R : V → H → Prop} (m : Nat) (hc : ClearV C h s t R) (hr : ∀ v h', R v h' → Run C N n0 m Q k (upo d v τ) h') :
    ClearThen C N n0 Q s t d k τ h := by
  intro hk S w0 φ w sv ty R1 r1
  obtain ⟨v, w', φ', r, h', q1, q2, q3, q4, q5, q6⟩ := hc S w0 φ w sv ty R1 r1
  exact ⟨v, w', φ', r, h', q1, q2, q3, q4, q5, Run_sound m Q k _ _ hk (hr _ _ q6)⟩

end
end Go.W
