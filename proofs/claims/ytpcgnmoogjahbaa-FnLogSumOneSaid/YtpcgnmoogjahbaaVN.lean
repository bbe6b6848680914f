/- A layer for walking through code on abstract values and an abstract heap: its definitions and their soundness; no condition. -/
import Derived.Test.YtpcgnmoogjahbaaVM
set_option linter.unusedVariables false
set_option linter.unusedSimpArgs false
namespace Go.VL
open Go Go.RowKit

section
variable {P : Program} {N : Nat} {all os : List Oper} {o : Oper} {Q : QT} {τ : Tau} {h : H} {k : List It}

theorem call_args {c : Call} {b : Builtin} (ho : o.op = .call c) (hc : c.callee = .builtin b) (hok : opOk N o = true) : c.args.toList.all opdOk = true := by
  simp only [opOk, Bool.and_eq_true, ho, Op.operands, Call.operands, hc] at hok
  rw [← Array.all_toList] at hok
  simpa using hok.2

theorem WO.app {c : Call} {s x : Operand} {t u : TypeId} (hg : o.guard = none) (ho : o.op = .call c) (hc : c.callee = .builtin .append) (hok : opOk N o = true)
    (ha : c.args.toList = [s, x]) (ht : c.argTypes.toList = [t, u]) (hv : AppV P h (ev τ s) (ev τ x) t u fun v h' => WO P N all os Q (upo o.dst v τ) h') : WO P N all (o :: os) Q τ h := by
  have hargs := call_args ho hc hok
  rw [ha] at hargs
  simp only [List.all_cons, List.all_nil, Bool.and_true, Bool.and_eq_true] at hargs
  simp only [opOk, Bool.and_eq_true] at hok
  refine WO.step hg hok.1 fun B w0 φ a w R T => ?_
  obtain ⟨v, w', φ', r, h', q1, q2, q3, q4, q5⟩ := hv B w0 φ w (a.eval s) (a.eval x) o.type R (ev_rel T s hargs.1) (ev_rel T x hargs.2)
  obtain ⟨cs, hcs⟩ := exec_builtin (P := P) (a := a) ho hc
  refine ⟨φ', r, h', w', q3, q2, q5, .inl ⟨v, ?_, q4⟩⟩
  rw [hcs, arr2 ha, arr2 ht]
  simp only [builtin, Sem.run_bind, List.map_toArray, List.map_cons, List.map_nil]
  rw [q1]; rfl

theorem WO.copy {c : Call} {s x : Operand} {t u : TypeId} (hg : o.guard = none) (ho : o.op = .call c) (hc : c.callee = .builtin .copy) (hok : opOk N o = true)
    (ha : c.args.toList = [s, x]) (ht : c.argTypes.toList = [t, u]) (hv : CopyV P h (ev τ s) (ev τ x) t u fun v h' => WO P N all os Q (upo o.dst v τ) h') : WO P N all (o :: os) Q τ h := by
  have hargs := call_args ho hc hok
  rw [ha] at hargs
  simp only [List.all_cons, List.all_nil, Bool.and_true, Bool.and_eq_true] at hargs
  simp only [opOk, Bool.and_eq_true] at hok
  refine WO.step hg hok.1 fun B w0 φ a w R T => ?_
  obtain ⟨v, w', φ', r, h', q1, q2, q3, q4, q5⟩ := hv B w0 φ w (a.eval s) (a.eval x) o.type R (ev_rel T s hargs.1) (ev_rel T x hargs.2)
  obtain ⟨cs, hcs⟩ := exec_builtin (P := P) (a := a) ho hc
  refine ⟨φ', r, h', w', q3, q2, q5, .inl ⟨v, ?_, q4⟩⟩
  rw [hcs, arr2 ha, arr2 ht]
  simp only [builtin, Sem.run_bind, List.map_toArray, List.map_cons, List.map_nil]
  rw [q1]; rfl

theorem WO.clear {c : Call} {s : Operand} {t : TypeId} (hg : o.guard = none) (ho : o.op = .call c) (hc : c.callee = .builtin .clear) (hok : opOk N o = true)
    (ha : c.args.toList = [s]) (ht : c.argTypes.toList = [t]) (hv : ClearV P h (ev τ s) t fun v h' => WO P N all os Q (upo o.dst v τ) h') : WO P N all (o :: os) Q τ h := by
  have hargs := call_args ho hc hok
  rw [ha] at hargs
  simp only [List.all_cons, List.all_nil, Bool.and_true] at hargs
  simp only [opOk, Bool.and_eq_true] at hok
  refine WO.step hg hok.1 fun B w0 φ a w R T => ?_
  obtain ⟨v, w', φ', r, h', q1, q2, q3, q4, q5⟩ := hv B w0 φ w (a.eval s) o.type R (ev_rel T s hargs)
  obtain ⟨cs, hcs⟩ := exec_builtin (P := P) (a := a) ho hc
  refine ⟨φ', r, h', w', q3, q2, q5, .inl ⟨v, ?_, q4⟩⟩
  rw [hcs, arr1 ha, arr1 ht]
  simp only [builtin, Sem.run_bind, List.map_toArray, List.map_cons, List.map_nil]
  rw [q1]; rfl

theorem WO.conv {src dst : TypeId} {x : Operand} (hg : o.guard = none) (ho : o.op = .convert src dst x) (hok : opOk N o = true)
    (hv : ConvV P h src dst (ev τ x) fun v h' => WO P N all os Q (upo o.dst v τ) h') : WO P N all (o :: os) Q τ h := by
  simp only [opOk, Bool.and_eq_true, ho, Op.operands] at hok
  have hx : opdOk x = true := by simpa using hok.2
  refine WO.step hg hok.1 fun B w0 φ a w R T => ?_
  obtain ⟨v, w', φ', r, h', q1, q2, q3, q4, q5⟩ := hv B w0 φ w (a.eval x) R (ev_rel T x hx)
  exact ⟨φ', r, h', w', q3, q2, q5, .inl ⟨v, by simp only [execOp, ho, Sem.run_bind]; rw [q1]; rfl, q4⟩⟩

theorem WO.eq {op : BinOp} {t u : TypeId} {x y : Operand} (hg : o.guard = none) (ho : o.op = .binOp op t x y u) (hok : opOk N o = true)
    (hv : EqV P h op t (ev τ x) (ev τ y) fun v h' => WO P N all os Q (upo o.dst v τ) h') : WO P N all (o :: os) Q τ h := by
  simp only [opOk, Bool.and_eq_true, ho, Op.operands] at hok
  have hx : opdOk x = true ∧ opdOk y = true := by simpa using hok.2
  refine WO.step hg hok.1 fun B w0 φ a w R T => ?_
  obtain ⟨v, w', φ', r, h', q1, q2, q3, q4, q5⟩ := hv B w0 φ w (a.eval x) (a.eval y) x y R (ev_rel T x hx.1) (ev_rel T y hx.2)
  refine ⟨φ', r, h', w', q3, q2, q5, .inl ⟨v, ?_, q4⟩⟩
  have : (execOp a.eval o) = (do pure (.value (← (do eqGuard op t x y (a.eval x) (a.eval y); binOp op t (a.eval x) (a.eval y) : Sem Value))) : Sem Next) := by
    unfold execOp; rw [ho]
  rw [this, Sem.run_bind, q1]; rfl

theorem WO.panic {x : Operand} {t : TypeId} {v : Value} (hg : o.guard = none) (ho : o.op = .panic x) (hok : opOk N o = true) (hx : ev τ x = .s (.iface t v))
    (hq : Q (.pan (.s (.iface t v))) τ h) : WO P N all (o :: os) Q τ h := by
  simp only [opOk, Bool.and_eq_true, ho, Op.operands] at hok
  have hxo : opdOk x = true := by simpa using hok.2
  intro B w0 φ a w R T hN
  have ex := ev_rel T x hxo
  rw [hx] at ex
  obtain ⟨ex, -⟩ := s_rel ex
  refine wpList_plain hg fun K hK => ?_
  unfold Oper.wp
  have : (execOp a.eval o).run P w = .halt (.panic (.iface t v)) w := by simp [execOp, ho, ex, Instr.panic]
  rw [this]
  exact ⟨.pan _, τ, h, φ, ⟨_, rfl, mk_s rfl⟩, R, Ext.refl φ, T, hN, rfl, hq⟩

theorem opW_mono {K K' : V → H → Prop} {p : Op} (hk : ∀ v h, K v h → K' v h) (hw : opW P τ h p K) : opW P τ h p K' := by
  revert hw
  cases p <;> simp only [opW] <;> (repeat' split) <;> intro hw <;> first
    | exact hk _ _ hw
    | exact ⟨hw.1, hk _ _ hw.2⟩
    | exact hw.elim

theorem builtinW_mono {K K' : V → H → Prop} {b : Builtin} {xs : List Operand} {ts : List TypeId} (hk : ∀ v h, K v h → K' v h) (hw : builtinW P τ h b xs ts K) : builtinW P τ h b xs ts K' := by
  revert hw
  unfold builtinW
  (repeat' split) <;> intro hw <;> first
    | exact hk _ _ hw
    | exact hw.elim

theorem semK_pan {v : V} : ∀ {k : List It}, Q (.pan v) τ h → SemK P N Q k (.pan v) τ h
  | [], hq => hq
  | .code _ :: k, hq => semK_pan (k := k) hq
  | .ops _ _ :: k, hq => semK_pan (k := k) hq
  | .blk _ :: k, hq => semK_pan (k := k) hq
theorem semK_ret : ∀ {k : List It}, Q .ret τ h → SemK P N Q k .ret τ h
  | [], hq => hq
  | .code _ :: k, hq => semK_ret (k := k) hq
  | .ops _ _ :: k, hq => semK_ret (k := k) hq
  | .blk _ :: k, hq => semK_ret (k := k) hq
theorem semK_exit {id : Nat} : ∀ {k : List It}, (match popTo id k with | some k' => SemK P N Q k' .normal τ h | none => Q (.exit id) τ h) → SemK P N Q k (.exit id) τ h
  | [], hq => hq
  | .code _ :: k, hq => semK_exit (k := k) hq
  | .ops _ _ :: k, hq => semK_exit (k := k) hq
  | .blk id' :: k, hq => by
    simp only [popTo] at hq
    simp only [SemK]
    by_cases e : id = id'
    · rw [if_pos e] at hq ⊢; exact hq
    · rw [if_neg e] at hq ⊢; exact semK_exit (k := k) hq

theorem popTo_ok {id : Nat} : ∀ {k k' : List It}, popTo id k = some k' → k.all (itOk N) = true → k'.all (itOk N) = true
  | [], _, h, _ => by cases h
  | .code _ :: k, k', h, ho => by simp only [List.all_cons, Bool.and_eq_true] at ho; exact popTo_ok (k := k) h ho.2
  | .ops _ _ :: k, k', h, ho => by simp only [List.all_cons, Bool.and_eq_true] at ho; exact popTo_ok (k := k) h ho.2
  | .blk id' :: k, k', h, ho => by
    simp only [List.all_cons, Bool.and_eq_true] at ho
    simp only [popTo] at h
    split at h
    · obtain rfl := Option.some.inj h; exact ho.2
    · exact popTo_ok (k := k) h ho.2

theorem Run_sound : ∀ (n : Nat) (k : List It) (τ : Tau) (h : H), k.all (itOk N) = true → Run P N n Q k τ h → SemK P N Q k .normal τ h
  | 0, _, _, _, _, hr => by simp only [Run] at hr
  | n + 1, [], τ, h, _, hr => by simp only [Run] at hr; exact hr
  | n + 1, .blk id :: k, τ, h, ho, hr => by
    simp only [List.all_cons, Bool.and_eq_true] at ho
    simp only [Run] at hr
    exact Run_sound n k τ h ho.2 hr
  | n + 1, .code c :: k, τ, h, ho, hr => by
    simp only [List.all_cons, Bool.and_eq_true, itOk] at ho
    show WC P N c (SemK P N Q k) τ h
    cases c with
    | skip => simp only [Run] at hr; exact fun B w0 φ a w R T hN => wp_skip ⟨.normal, τ, h, φ, rfl, R, Ext.refl φ, T, hN, rfl, Run_sound n k τ h ho.2 hr⟩
    | label l => simp only [Run] at hr; exact fun B w0 φ a w R T hN => wp_label ⟨.normal, τ, h, φ, rfl, R, Ext.refl φ, T, hN, rfl, Run_sound n k τ h ho.2 hr⟩
    | seq x y =>
      simp only [Run] at hr
      simp only [codeOk, Bool.and_eq_true] at ho
      have := Run_sound n (.code x :: .code y :: k) τ h (by simp only [List.all_cons, itOk, ho.1.1, ho.1.2, ho.2, Bool.and_self]) hr
      refine WC.seq (WC.mono this fun x τ h q => ?_)
      cases x with
      | normal => exact q
      | exit id => exact q
      | ret => exact q
      | pan v => exact q
    | block id x =>
      simp only [Run] at hr
      simp only [codeOk] at ho
      have := Run_sound n (.code x :: .blk id :: k) τ h (by simp only [List.all_cons, itOk, ho.1, ho.2, Bool.and_self]) hr
      refine WC.block (WC.mono this fun x τ h q => ?_)
      cases x with
      | normal => exact q
      | exit id => exact q
      | ret => exact q
      | pan v => exact q
    | cond c x y =>
      simp only [Run] at hr
      simp only [codeOk, Bool.and_eq_true] at ho
      split at hr
      · rename_i b hb
        exact WC.cond ho.1.1 hb
          (fun e => Run_sound n (.code x :: k) τ h (by simp only [List.all_cons, itOk, ho.1.2.1, ho.2, Bool.and_self]) (hr.1 e))
          (fun e => Run_sound n (.code y :: k) τ h (by simp only [List.all_cons, itOk, ho.1.2.2, ho.2, Bool.and_self]) (hr.2 e))
      · exact hr.elim
    | region id ops draw =>
      simp only [Run] at hr
      simp only [codeOk] at ho
      cases draw with
      | true => simp only [if_true] at hr; exact hr ho.1 ho.2
      | false =>
        have hall : ops.toList.all (opOk N) = true := by rw [Array.all_toList]; exact ho.1
        refine WC.region (Run_sound n (.ops ops.toList ops.toList :: k) τ h (by simp only [List.all_cons, itOk, hall, ho.2, Bool.and_self]) ?_)
        simpa using hr
    | loop x => simp only [Run] at hr; simp only [codeOk] at ho; exact hr ho.1 ho.2
    | exit id =>
      simp only [Run] at hr
      refine fun B w0 φ a w R T hN => wp_exit ⟨.exit id, τ, h, φ, rfl, R, Ext.refl φ, T, hN, rfl, semK_exit ?_⟩
      cases hp : popTo id k with
      | none => rw [hp] at hr; exact hr
      | some k' => rw [hp] at hr; exact Run_sound n k' τ h (popTo_ok hp ho.2) hr
    | ret => simp only [Run] at hr; exact fun B w0 φ a w R T hN => wp_ret ⟨.ret, τ, h, φ, rfl, R, Ext.refl φ, T, hN, rfl, semK_ret hr⟩
    | rangeFunc f ps x y => simp only [Run] at hr
    | scope x => simp only [Run] at hr
    | goto l => simp only [Run] at hr
    | refuse s => simp only [Run] at hr
  | n + 1, .ops all [] :: k, τ, h, ho, hr => by
    simp only [List.all_cons, Bool.and_eq_true] at ho
    simp only [Run] at hr
    exact WO.nil (Run_sound n k τ h ho.2 hr)
  | n + 1, .ops all (o :: os) :: k, τ, h, ho, hr => by
    simp only [List.all_cons, Bool.and_eq_true, itOk] at ho
    obtain ⟨⟨hall, hoo, hos⟩, hk⟩ := ho
    have hd := hoo
    simp only [opOk, Bool.and_eq_true] at hd
    have rest : ∀ τ h, Run P N n Q (.ops all os :: k) τ h → WO P N all os (SemK P N Q k) τ h := fun τ h hr =>
      Run_sound n (.ops all os :: k) τ h (by simp only [List.all_cons, itOk, hall, hos, hk, Bool.and_self]) hr
    show WO P N all (o :: os) (SemK P N Q k) τ h
    have opd : o.guard = none → opW P τ h o.op (fun v h' => Run P N n Q (.ops all os :: k) (upo o.dst v τ) h') → WO P N all (o :: os) (SemK P N Q k) τ h := fun hg hw =>
      WO.step hg hd.1 fun B w0 φ a w R T => opW_sound (by have := hd.2; rw [← Array.all_toList] at this ⊢; exact this) R T
        (opW_mono (fun v h' q => rest _ _ q) hw)
    have hks : (It.ops all os :: k).all (itOk N) = true := by simp only [List.all_cons, itOk, hall, hos, hk, Bool.and_self]
    simp only [Run] at hr
    split at hr
    · rename_i hg
      split at hr
      · rename_i c ho
        split at hr
        · rename_i b hc
          split at hr
          · split at hr
            · rename_i s x t u ha ht
              exact WO.app hg ho hc hoo ha ht (hr hks)
            · exact hr.elim
          · split at hr
            · rename_i s x t u ha ht
              exact WO.copy hg ho hc hoo ha ht (hr hks)
            · exact hr.elim
          · split at hr
            · rename_i s t ha ht
              exact WO.clear hg ho hc hoo ha ht (hr hks)
            · exact hr.elim
          · exact WO.step hg hd.1 fun B w0 φ a w R T => ((builtinW_sound ho hc (call_args ho hc hoo) T (builtinW_mono (fun v h' q => rest _ _ q) hr)).v w).did R
        · rename_i fo hc
          split at hr
          · rename_i f caps hf
            refine WO.call hg ho hc hoo hf (CallsV.mono (hr hks) fun r h' q => ?_)
            cases r with
            | ret v => exact q
            | pan v => exact q
          · exact hr.elim
        · exact hr.elim
      · rename_i src dst x ho
        split at hr
        · exact WO.conv hg ho hoo (hr hks)
        · rw [← ho] at hr; exact opd hg hr
      · rename_i op t x y u ho
        split at hr
        · exact WO.eq hg ho hoo (hr hks)
        · rw [← ho] at hr; exact opd hg hr
      · rename_i x ho
        split at hr
        · rename_i t v hx
          exact WO.panic hg ho hoo hx (semK_pan hr)
        · exact hr.elim
      · exact opd hg hr
    · rename_i j want hg
      split at hr
      · rename_i b hb
        refine WO.guarded hg hall hd.1 hb (fun e => ?_) (fun e => rest _ _ (by have q := hr.2 e; rw [gSet_not hb e] at q; exact q))
        exact Run_sound n (.ops all ({ o with guard := none } :: os) :: k) τ h (by
          have : opOk N { o with guard := none } = true := hoo
          simp only [List.all_cons, itOk, hall, this, hos, hk, Bool.and_self]) (by have q := hr.1 e; rw [gSet_want hb e] at q; exact q)
      · exact hr.elim

end
end Go.VL
