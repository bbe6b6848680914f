/- A layer for walking through code on abstract values and an abstract heap: its definitions and their soundness; no condition. -/
import Derived.Test.YtpcgnmoogjahbaaVK
set_option linter.unusedVariables false
set_option linter.unusedSimpArgs false
namespace Go.VL
open Go Go.RowKit

section
variable {P : Program} {o : Oper} {a : Act} {w : World} {B : Nat} {w0 : World} {φ : Phi} {K : V → H → Prop} {h : H} {τ : Tau}

theorem exec_builtin {c : Call} {b : Builtin} (ho : o.op = .call c) (hc : c.callee = .builtin b) :
    ∃ cs, ∀ w, (execOp a.eval o).run P w = (builtin b c.argTypes o.type cs (c.args.map a.eval)).run P w := by
  simp only [execOp, ho, resolve, hc, Sem.run_bind, Sem.run_pure, Result.andThen_ok, invoke]
  exact ⟨_, fun _ => rfl⟩

theorem arr2 {α : Type} {x : Array α} {p q : α} (h : x.toList = [p, q]) : x = #[p, q] := by
  apply Array.ext'; simpa using h
theorem arr1 {α : Type} {x : Array α} {p : α} (h : x.toList = [p]) : x = #[p] := by
  apply Array.ext'; simpa using h

theorem builtinW_sound {c : Call} {b : Builtin} (ho : o.op = .call c) (hc : c.callee = .builtin b) (hok : c.args.toList.all opdOk = true) (T : RelT φ τ a)
    (hw : builtinW P τ h b c.args.toList c.argTypes.toList K) : DidA P o a φ (fun x => K x h) := by
  unfold builtinW at hw
  split at hw
  · rename_i x t e1 e2
    have ha := arr1 e1
    have ht := arr1 e2
    rw [e1] at hok
    simp only [List.all_cons, List.all_nil, Bool.and_true] at hok
    have ex := ev_rel T x hok
    split at hw
    · rename_i s f1 f2
      rw [f1] at ex; obtain ⟨ex, -⟩ := s_rel ex
      refine did_any hw (v := .int .i64 s.size) (fun w => ?_) (mk_s rfl)
      obtain ⟨cs, hcs⟩ := exec_builtin (P := P) (a := a) ho hc
      rw [hcs, ha, ht]
      simp [builtin, Builtin.len_, run_underlying (tK_string f2), ex, goInt]
    · rename_i b' off len cap e f1 f2
      rw [f1] at ex; obtain ⟨blk, base, hp, ex⟩ := sl_rel ex
      refine did_any hw (v := .int .i64 len) (fun w => ?_) (mk_s rfl)
      obtain ⟨cs, hcs⟩ := exec_builtin (P := P) (a := a) ho hc
      rw [hcs, ha, ht]
      simp [builtin, Builtin.len_, run_underlying (tK_slice f2), ex, goInt]
    · rename_i n cc e f1 f2
      rw [f1] at ex; obtain ⟨ex, -⟩ := s_rel ex
      refine did_any hw (v := .int .i64 n) (fun w => ?_) (mk_s rfl)
      obtain ⟨cs, hcs⟩ := exec_builtin (P := P) (a := a) ho hc
      rw [hcs, ha, ht]
      simp [builtin, Builtin.len_, run_underlying (tK_slice f2), ex, goInt]
    · exact hw.elim
  · rename_i x t e1 e2
    have ha := arr1 e1
    have ht := arr1 e2
    rw [e1] at hok
    simp only [List.all_cons, List.all_nil, Bool.and_true] at hok
    have ex := ev_rel T x hok
    split at hw
    · rename_i b' off len cap e f1 f2
      rw [f1] at ex; obtain ⟨blk, base, hp, ex⟩ := sl_rel ex
      refine did_any hw (v := .int .i64 cap) (fun w => ?_) (mk_s rfl)
      obtain ⟨cs, hcs⟩ := exec_builtin (P := P) (a := a) ho hc
      rw [hcs, ha, ht]
      simp [builtin, Builtin.cap_, run_underlying (tK_slice f2), ex, goInt]
    · rename_i n cc e f1 f2
      rw [f1] at ex; obtain ⟨ex, -⟩ := s_rel ex
      refine did_any hw (v := .int .i64 cc) (fun w => ?_) (mk_s rfl)
      obtain ⟨cs, hcs⟩ := exec_builtin (P := P) (a := a) ho hc
      rw [hcs, ha, ht]
      simp [builtin, Builtin.cap_, run_underlying (tK_slice f2), ex, goInt]
    · exact hw.elim
  · rename_i x y e1
    have ha := arr2 e1
    rw [e1] at hok
    simp only [List.all_cons, List.all_nil, Bool.and_true, Bool.and_eq_true] at hok
    have ex := ev_rel T x hok.1
    have ey := ev_rel T y hok.2
    split at hw
    · rename_i k p k' q f1 f2
      rw [f1] at ex; obtain ⟨ex, -⟩ := s_rel ex
      rw [f2] at ey; obtain ⟨ey, -⟩ := s_rel ey
      refine did_any hw (v := .int k (if q < p then q else p)) (fun w => ?_) (mk_s rfl)
      obtain ⟨cs, hcs⟩ := exec_builtin (P := P) (a := a) ho hc
      rw [hcs, ha]
      simp [builtin, Builtin.min_, ex, ey, Builtin.min2]
    · exact hw.elim
  · rename_i x y e1
    have ha := arr2 e1
    rw [e1] at hok
    simp only [List.all_cons, List.all_nil, Bool.and_true, Bool.and_eq_true] at hok
    have ex := ev_rel T x hok.1
    have ey := ev_rel T y hok.2
    split at hw
    · rename_i k p k' q f1 f2
      rw [f1] at ex; obtain ⟨ex, -⟩ := s_rel ex
      rw [f2] at ey; obtain ⟨ey, -⟩ := s_rel ey
      refine did_any hw (v := .int k (if p < q then q else p)) (fun w => ?_) (mk_s rfl)
      obtain ⟨cs, hcs⟩ := exec_builtin (P := P) (a := a) ho hc
      rw [hcs, ha]
      simp [builtin, Builtin.max_, ex, ey, Builtin.max2]
    · exact hw.elim
  · exact hw.elim

/-! ### From operations to the list of them -/
theorem upon_did {next : Act → World → Prop} {Q : Exit → Act → World → Prop} (hd : Did P o a w B w0 φ K)
    (hn : ∀ φ' x h' w' v, Ext φ φ' → Rel B w0 φ' h' w' → K x h' → (RelV φ' x v ∨ x = .any) → next (a.put o.dst v) w') : o.wp P a w next Q := by
  obtain ⟨φ', x, h', w', E, R', hk, hr⟩ := hd
  unfold Oper.wp
  rcases hr with ⟨v, hr, rv⟩ | ⟨hr, rfl⟩
  · rw [hr]; exact hn φ' x h' w' v E R' hk (.inl rv)
  · rw [hr]; exact hn φ' .any h' w' undef E R' hk (.inr rfl)

theorem put_rel {N : Nat} {x : V} {v : Value} (T : RelT φ τ a) (hN : a.tmps.size = N) (hd : (match o.dst with | some d => decide (d < N) | none => true) = true) (r : RelV φ x v ∨ x = .any) :
    RelT φ (upo o.dst x τ) (a.put o.dst v) ∧ (a.put o.dst v).tmps.size = N ∧ (a.put o.dst v).defers = a.defers := by
  cases hdst : o.dst with
  | none => exact ⟨T, hN, rfl⟩
  | some d =>
    rw [hdst] at hd
    simp only [decide_eq_true_eq] at hd
    refine ⟨?_, by simp [Act.put, hN], rfl⟩
    rcases r with r | rfl
    · exact T.put (by rw [hN]; exact hd) r
    · exact T.putAny

end

section
variable {P : Program} {N : Nat} {all os : List Oper} {o : Oper} {Q : QT} {τ : Tau} {h : H}

theorem upon_mono {a : Act} {K K' : Act → World → Prop} {Q Q' : Exit → Act → World → Prop} (hk : ∀ a w, K a w → K' a w) (hq : ∀ e a w, Q e a w → Q' e a w) {r : Result Next}
    (hu : o.upon P a K Q r) : o.upon P a K' Q' r := by
  cases r with
  | ok n w' =>
    cases n <;> simp only [Oper.upon] at hu ⊢
    case value u => exact hk _ _ hu
    case skip => exact hk _ _ hu
    case defer d => exact hk _ _ hu
    case enter f args =>
      refine Calls.mono hu fun e w'' he => ?_
      cases e with
      | returned u => exact hk _ _ he
      | panicked c => exact hq _ _ _ he
      | outgrown => obtain ⟨a, w, h⟩ := he; exact ⟨a, w, hq _ _ _ h⟩
    case row row args => exact Rows.mono hu fun u w'' he => hk _ _ he
  | halt x w' =>
    cases x <;> simp only [Oper.upon] at hu ⊢
    case panic u => exact hq _ _ _ hu

theorem wpList_mono {ops : Array Oper} {Q Q' : Exit → Act → World → Prop} (hq : ∀ e a w, Q e a w → Q' e a w) : ∀ {l : List Oper} {a : Act} {w : World}, wpList P ops Q l a w → wpList P ops Q' l a w
  | [], a, w, h => hq _ _ _ h
  | o :: l, a, w, h => by
    unfold wpList at h ⊢
    split
    · rename_i hw
      rw [if_pos hw] at h
      rcases h with h | ⟨h1, a', w', h2⟩
      · exact .inl (upon_mono (fun a w h => wpList_mono hq h) hq h)
      · exact .inr ⟨h1, a', w', hq _ _ _ h2⟩
    · rename_i hw
      rw [if_neg hw] at h
      exact wpList_mono hq h

/-- What stands for the list behind an operation, from later names on. -/
theorem WO.later {B : Nat} {w0 : World} {φ φ' : Phi} {a a' : Act} {w' : World} (E : Ext φ φ') (hds : a'.defers = a.defers) (hk : WO P N all os Q τ h) (R : Rel B w0 φ' h w') (T : RelT φ' τ a')
    (hN : a'.tmps.size = N) : wpList P all.toArray (Post N B w0 φ a.defers Q) os a' w' := by
  have := hk B w0 φ' a' w' R T hN
  rw [hds] at this
  exact wpList_mono (fun e a w p => p.mono E fun _ _ _ q => q) this

/-- One operation that is no call, and what comes behind it. -/
theorem WO.step (hg : o.guard = none) (hd : (match o.dst with | some d => decide (d < N) | none => true) = true)
    (hs : ∀ B w0 φ a w, Rel B w0 φ h w → RelT φ τ a → Did P o a w B w0 φ fun x h' => WO P N all os Q (upo o.dst x τ) h') : WO P N all (o :: os) Q τ h := by
  intro B w0 φ a w R T hN
  refine wpList_plain hg fun K hK => ?_
  refine upon_did (hs B w0 φ a w R T) fun φ' x h' w' v E R' hk r => ?_
  obtain ⟨q1, q2, q3⟩ := put_rel (o := o) (T.ext E) hN hd r
  exact hK _ _ (WO.later E q3 hk R' q1 q2)

theorem WO.nil (hq : Q .normal τ h) : WO P N all [] Q τ h :=
  fun B w0 φ a w R T hN => ⟨.normal, τ, h, φ, rfl, R, Ext.refl φ, T, hN, rfl, hq⟩

theorem guard_yields {φ : Phi} {a : Act} {j : Nat} {b : Bool} (T : RelT φ τ a) (hN : a.tmps.size = N) (hall : all.all (opOk N) = true) (hg : gV all τ j = some b) :
    yielded all.toArray a.tmps j = some b := by
  unfold gV at hg
  split at hg
  · rename_i t ht
    split at hg
    · rename_i b' hb
      obtain rfl := Option.some.inj hg
      have e := T t
      rw [hb] at e
      obtain ⟨e, -⟩ := s_rel e
      unfold yielded
      simp only [List.getElem?_toArray, ht, Option.bind_some]
      -- the slot lies within the frame
      cases hj : all[j]? with
      | none => rw [hj] at ht; cases ht
      | some oj =>
        rw [hj] at ht
        simp only [Option.bind_some] at ht
        have hm := List.mem_of_getElem? hj
        have hok := List.all_eq_true.1 hall oj hm
        simp only [opOk, ht, Bool.and_eq_true, decide_eq_true_eq] at hok
        have hlt : t < a.tmps.size := by rw [hN]; exact hok.1
        rw [Array.getElem?_eq_getElem hlt]
        have : a.tmps.getD t undef = a.tmps[t] := by simp [Array.getD, hlt]
        rw [this] at e
        rw [e]
    · cases hg
  · cases hg

/-- A guarded operation. -/
theorem WO.guarded {j : Nat} {want b : Bool} (hg : o.guard = some (j, want)) (hall : all.all (opOk N) = true) (hd : (match o.dst with | some d => decide (d < N) | none => true) = true)
    (hb : gV all τ j = some b) (h1 : b = want → WO P N all ({ o with guard := none } :: os) Q τ h) (h2 : ¬ b = want → WO P N all os Q (upo o.dst .any τ) h) : WO P N all (o :: os) Q τ h := by
  intro B w0 φ a w R T hN
  have hy := guard_yields T hN hall hb
  by_cases e : b = want
  · subst e
    have := h1 rfl B w0 φ a w R T hN
    unfold wpList at this ⊢
    rw [if_pos (by simp [Region.wanted])] at this
    rw [if_pos (by simp [Region.wanted, hg, hy])]
    exact this
  · unfold wpList
    rw [if_neg (by simp [Region.wanted, hg, hy, e])]
    obtain ⟨q1, q2, q3⟩ := put_rel (o := o) (v := undef) (x := .any) T hN hd (.inr rfl)
    exact WO.later (Ext.refl φ) q3 (h2 e) R q1 q2

/-- A call of a Go function. -/
theorem WO.call {c : Call} {fo : Operand} {f : Nat} {caps : List (Nat × Nat)} (hg : o.guard = none) (ho : o.op = .call c) (hcl : c.callee = .value fo) (hok : opOk N o = true) (hf : ev τ fo = .fn f caps)
    (hc : CallsV P f (c.args.toList.map (ev τ) ++ caps.map fun p => .ptr p.1 p.2) h fun r h' => match r with
      | .ret v => WO P N all os Q (upo o.dst v τ) h'
      | .pan v => Q (.pan v) τ h') : WO P N all (o :: os) Q τ h := by
  intro B w0 φ a w R T hN
  simp only [opOk, Bool.and_eq_true] at hok
  obtain ⟨hd, hop⟩ := hok
  rw [ho] at hop
  simp only [Op.operands, Call.operands, hcl] at hop
  rw [← Array.all_toList] at hop
  simp only [Array.toList_append, List.all_append, Bool.and_eq_true] at hop
  have ef := ev_rel T fo (by have := hop.1; simpa using this)
  rw [hf] at ef
  simp only [RelV, RelQ, RelC, conc] at ef
  cases hp : places φ caps with
  | none => rw [hp] at ef; cases ef
  | some cl =>
    rw [hp] at ef
    have ef := Option.some.inj ef
    refine wpList_plain hg fun K hK => ?_
    have hrun : (execOp a.eval o).run P w = .ok (.enter f (#[] ++ c.args.map a.eval ++ cl.toArray)) w := by
      have he := hc.1
      unfold enters at he
      cases hfn : P.funcs[f]? with
      | none => rw [hfn] at he; cases he
      | some fn =>
        rw [hfn] at he
        simp only [Bool.and_eq_true, bne_iff_ne, ne_eq] at he
        have h1 : ¬ fn.name = "runtime.NumGoroutine" := he.1
        have h2 : fn.body.isNone = false := by
          cases hb : fn.body with
          | none => rw [hb] at he; exact absurd he.2 (by simp)
          | some _ => rfl
        simp only [execOp, ho, resolve, hcl, ← ef, Deferred.ofValue, Sem.run_bind, Sem.run_pure, Result.andThen_ok, invoke, callFunc, run_program, hfn]
        simp [h1, h2]
    unfold Oper.wp
    rw [hrun]
    simp only [Oper.upon]
    have hargs : All2 (RelV φ) (c.args.toList.map (ev τ) ++ caps.map fun p => .ptr p.1 p.2) (#[] ++ c.args.map a.eval ++ cl.toArray).toList := by
      have h1 := evs_rel T (xs := c.args.toList) hop.2
      have h2 : ∀ {cs : List (Nat × Nat)} {l : List Value}, places φ cs = some l → All2 (RelV φ) (cs.map fun p => V.ptr p.1 p.2) l := by
        intro cs
        induction cs with
        | nil => intro l e; simp [places] at e; subst e; trivial
        | cons p cs ih =>
          intro l e
          simp only [places] at e
          cases h3 : place φ p.1 p.2 with
          | none => rw [h3] at e; simp at e
          | some ad =>
            cases h4 : places φ cs with
            | none => rw [h3, h4] at e; simp at e
            | some l' =>
              rw [h3, h4] at e
              obtain rfl := Option.some.inj e
              exact ⟨by simp [RelV, RelQ, RelC, conc, h3], ih h4⟩
      have := h1.append (h2 hp)
      simpa using this
    refine (hc.2 B w0 φ _ w R hargs).mono fun e w' ⟨r, φ', h', p1, p2, p3, p4⟩ => ?_
    cases r with
    | ret v =>
      obtain ⟨cv, rfl, rv⟩ := p1
      obtain ⟨q1, q2, q3⟩ := put_rel (o := o) (T.ext p3) hN hd (.inl rv)
      exact hK _ _ (WO.later p3 q3 p4 p2 q1 q2)
    | pan v =>
      obtain ⟨cv, rfl, rv⟩ := p1
      exact ⟨.pan v, τ, h', φ', ⟨cv, rfl, rv⟩, p2, p3, T.ext p3, hN, rfl, p4⟩

end
end Go.VL
