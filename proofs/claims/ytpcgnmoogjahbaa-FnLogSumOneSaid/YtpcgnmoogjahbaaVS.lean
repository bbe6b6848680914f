/- A layer for walking through code on abstract values and an abstract heap: its definitions and their soundness; no condition. -/
import Derived.Test.YtpcgnmoogjahbaaVR
set_option linter.unusedVariables false
set_option linter.unusedSimpArgs false
namespace Go.VL
open Go Go.RowKit

section
variable {P : Program} {N : Nat} {Q : QT} {τ : Tau} {h : H} {k : List It} {o : Oper}

theorem call_wp {c : Call} {fo : Operand} {f : Nat} {caps : List (Nat × Nat)} (ho : o.op = .call c) (hcl : c.callee = .value fo) (hok : opOk N o = true) (hf : ev τ fo = .fn f caps)
    {R : Res → H → Prop} (hc : CallsV P f (c.args.toList.map (ev τ) ++ caps.map fun p => .ptr p.1 p.2) h R) {B : Nat} {w0 : World} {φ : Phi} {a : Act} {w : World} {K : Act → World → Prop}
    {Qp : Exit → Act → World → Prop} (Rl : Rel B w0 φ h w) (T : RelT φ τ a)
    (hret : ∀ φ' x v h' w', Ext φ φ' → Rel B w0 φ' h' w' → RelV φ' x v → R (.ret x) h' → K (a.put o.dst v) w')
    (hpan : ∀ φ' x v h' w', Ext φ φ' → Rel B w0 φ' h' w' → RelV φ' x v → R (.pan x) h' → Qp (.panic [{ v, recovered := false }]) a w') : o.wp P a w K Qp := by
  simp only [opOk, Bool.and_eq_true] at hok
  obtain ⟨hd, hop⟩ := hok
  rw [ho] at hop
  simp only [Op.operands, Call.operands, hcl] at hop
  rw [← Array.all_toList] at hop
  simp only [Array.toList_append, List.all_append, Bool.and_eq_true] at hop
  have ef := ev_rel T fo (by have := hop.1; simpa using this)
  rw [hf] at ef
  simp only [RelV, RelQ, RelC, conc] at ef
  cases hp : places φ caps with
  | none => rw [hp] at ef; cases ef
  | some cl =>
    rw [hp] at ef
    have ef := Option.some.inj ef
    have hrun : (execOp a.eval o).run P w = .ok (.enter f (#[] ++ c.args.map a.eval ++ cl.toArray)) w := by
      have he := hc.1
      unfold enters at he
      cases hfn : P.funcs[f]? with
      | none => rw [hfn] at he; cases he
      | some fn =>
        rw [hfn] at he
        simp only [Bool.and_eq_true, bne_iff_ne, ne_eq] at he
        have h1 : ¬ fn.name = "runtime.NumGoroutine" := he.1
        have h2 : fn.body.isNone = false := by
          cases hb : fn.body with
          | none => rw [hb] at he; exact absurd he.2 (by simp)
          | some _ => rfl
        simp only [execOp, ho, resolve, hcl, ← ef, Deferred.ofValue, Sem.run_bind, Sem.run_pure, Result.andThen_ok, invoke, callFunc, run_program, hfn]
        simp [h1, h2]
    unfold Oper.wp
    rw [hrun]
    simp only [Oper.upon]
    have hargs : All2 (RelV φ) (c.args.toList.map (ev τ) ++ caps.map fun p => .ptr p.1 p.2) (#[] ++ c.args.map a.eval ++ cl.toArray).toList := by
      have h1 := evs_rel T (xs := c.args.toList) hop.2
      have h2 : ∀ {cs : List (Nat × Nat)} {l : List Value}, places φ cs = some l → All2 (RelV φ) (cs.map fun p => V.ptr p.1 p.2) l := by
        intro cs
        induction cs with
        | nil => intro l e; simp [places] at e; subst e; trivial
        | cons p cs ih =>
          intro l e
          simp only [places] at e
          cases h3 : place φ p.1 p.2 with
          | none => rw [h3] at e; simp at e
          | some ad =>
            cases h4 : places φ cs with
            | none => rw [h3, h4] at e; simp at e
            | some l' =>
              rw [h3, h4] at e
              obtain rfl := Option.some.inj e
              exact ⟨by simp [RelV, RelQ, RelC, conc, h3], ih h4⟩
      have := h1.append (h2 hp)
      simpa using this
    refine (hc.2 B w0 φ _ w Rl hargs).mono fun e w' ⟨r, φ', h', p1, p2, p3, p4⟩ => ?_
    cases r with
    | ret v =>
      obtain ⟨cv, rfl, rv⟩ := p1
      exact hret φ' v cv h' w' p3 p2 rv p4
    | pan v =>
      obtain ⟨cv, rfl, rv⟩ := p1
      exact hpan φ' v cv h' w' p3 p2 rv p4

variable {h0 : H} {exc : List Nat} {ops : Array Oper} {m : Nat}

theorem post_panic {B : Nat} {w0 : World} {φ : Phi} {ds : List Deferred} {Q' : QT} (hQ : PanFree Q') (c : List PanicEntry) (a : Act) (w : World) (d : Option Nat) (v : Value)
    (p : Post N B w0 φ ds Q' (.panic c) (a.put d v) w) : Post N B w0 φ ds Q' (.panic c) a w := by
  obtain ⟨x, τ, h, φ', p1, p2, p3, p4, p5, p6, p7⟩ := p
  cases x with
  | normal => simp only [XRel] at p1; cases p1
  | exit id => simp only [XRel] at p1; cases p1
  | ret => simp only [XRel] at p1; cases p1
  | pan u =>
    refine ⟨.pan u, fun _ => .any, h, φ', p1, p2, p3, fun t => trivial, ?_, ?_, hQ _ _ _ _ p7⟩
    · cases d with
      | none => exact p5
      | some d => simpa [Act.put] using p5
    · cases d with
      | none => exact p6
      | some d => exact p6

/-- Behind an operation that was carried out in its turn. -/
theorem wd_next {B : Nat} {w0 : World} {φs φ φ' : Phi} {ws w' : World} {Q' : QT} {fuel : Nat} {listed : Array Bool} {a : Act} {x : V} {v : Value} {τ : Tau} {h' : H} (hd : (match o.dst with | some d => decide (d < N) | none => true) = true)
    (Rs : Rel B w0 φs h0 ws) (E : Ext φs φ) (E' : Ext φ φ') (R' : Rel B w0 φ' h' w') (T : RelT φ τ a) (hN : a.tmps.size = N) (hr : RelV φ' x v ∨ x = .any) (hst : Stay h0 exc h') (hn : h0.n ≤ h'.n)
    (hw : WD P N Q' h0 exc ops fuel listed (upo o.dst x τ) h') :
    SW φs h0 exc w' ∧ wpAnyH P .any ops (Post N B w0 φ a.defers Q') (SW φs h0 exc) fuel listed (a.put o.dst v) w' := by
  have hsw := sw_of R' (E.trans E') hn hst
  obtain ⟨q1, q2, q3⟩ := put_rel (o := o) (T.ext E') hN hd hr
  refine ⟨hsw, ?_⟩
  have := hw B w0 φs ws φ' (a.put o.dst v) w' Rs (E.trans E') R' q1 q2 hsw
  rw [q3] at this
  -- the post, from the elder names on
  have mono : ∀ (fuel : Nat) (listed : Array Bool) (a' : Act) (w : World), wpAnyH P .any ops (Post N B w0 φ' a.defers Q') (SW φs h0 exc) fuel listed a' w →
      wpAnyH P .any ops (Post N B w0 φ a.defers Q') (SW φs h0 exc) fuel listed a' w := by
    intro fuel
    induction fuel with
    | zero => intro listed a' w p; exact ⟨p.1, p.2.mono E' fun _ _ _ q => q⟩
    | succ n ih =>
      intro listed a' w p
      refine ⟨fun e => (p.1 e).mono E' fun _ _ _ q => q, fun i hi => ?_⟩
      have := p.2 i hi
      unfold wpOp at this ⊢
      split
      · rename_i e; simp only [e] at this; exact ⟨this.1, ih _ _ _ this.2⟩
      · rename_i oo e
        simp only [e] at this
        split
        · rename_i hw
          simp only [hw, if_true] at this
          rcases this with this | ⟨h1, a2, w2, h2⟩
          · exact .inl (upon_mono (fun a w q => ⟨q.1, ih _ _ _ q.2⟩) (fun e a w q => q.mono E' fun _ _ _ q => q) this)
          · exact .inr ⟨h1, a2, w2, h2.mono E' fun _ _ _ q => q⟩
        · rename_i hw
          simp only [hw] at this
          exact ⟨this.1, ih _ _ _ this.2⟩
  exact mono _ _ _ _ this

theorem exit_next {B : Nat} {w0 : World} {φ φ' : Phi} {w' : World} {Q' : QT} {a : Act} {x v : _} (E : Ext φ φ') (R' : Rel B w0 φ' h w') (T : RelT φ τ a) (hN : a.tmps.size = N) (rv : RelV φ' x v)
    (hq : Q' (.pan x) τ h) : Post N B w0 φ a.defers Q' (.panic [{ v, recovered := false }]) a w' :=
  ⟨.pan x, τ, h, φ', ⟨v, rfl, rv⟩, R', E, T.ext E, hN, rfl, hq⟩

theorem eff_sound (hQ : PanFree Q) (hk : k.all (itOk N) = true) (hops : ops.all (opOk N) = true) (hsel : Region.noSelect ops = true) {i : Nat} {fuel : Nat} {listed : Array Bool} {t : TD} (hoi : ops[i]? = some o)
    (ih : ∀ τ h, RunD P N m Q k h0 exc ops fuel listed t τ h → Stay h0 exc h → h0.n ≤ h.n → WD P N (SemK P N Q k) h0 exc ops fuel listed τ h) (hst : Stay h0 exc h) (hn : h0.n ≤ h.n)
    (he : RunD.effW P N m Q k h0 exc ops fuel listed o τ h (fun τ' h' => RunD P N m Q k h0 exc ops fuel listed t τ' h')) {B : Nat} {w0 : World} {φs φ : Phi} {ws w : World} {a : Act}
    (Rs : Rel B w0 φs h0 ws) (E : Ext φs φ) (R : Rel B w0 φ h w) (T : RelT φ τ a) (hN : a.tmps.size = N) :
    o.wp P a w (fun a' w' => SW φs h0 exc w' ∧ wpAnyH P .any ops (Post N B w0 φ a.defers (SemK P N Q k)) (SW φs h0 exc) fuel listed a' w') (Post N B w0 φ a.defers (SemK P N Q k)) := by
  have hok : opOk N o = true := Array.all_eq_true_iff_forall_mem.1 hops o (Array.mem_of_getElem? hoi)
  have hdst := hok
  simp only [opOk, Bool.and_eq_true] at hdst
  have hallT : ops.toList.all (opOk N) = true := by rw [Array.all_toList]; exact hops
  have hop2 : o.op.operands.all opdOk = true := by have := hdst.2; rw [← Array.all_toList] at this ⊢; exact this
  unfold RunD.effW at he
  split at he
  · rename_i c hc
    split at he
    · rename_i fo hcl
      split at he
      · rename_i f caps hf
        refine call_wp hc hcl hok hf (he hQ hk hops hsel) R T (fun φ' x v h' w' E' R' rv q => ?_) (fun φ' x v h' w' E' R' rv q => ?_)
        · exact wd_next (o := o) hdst.1 Rs E E' R' T hN (.inl rv) q.1 q.2.1 q.2.2
        · exact exit_next E' R' T hN rv (semK_pan q)
      · exact he.elim
    · rename_i b hcl
      have hargs := call_args hc hcl hok
      split at he
      · split at he
        · rename_i s x t u ha ht
          rw [ha] at hargs
          simp only [List.all_cons, List.all_nil, Bool.and_true, Bool.and_eq_true] at hargs
          obtain ⟨v, w', φ', r, h', q1, q2, q3, q4, q5⟩ := he hQ hk hops hsel B w0 φ w (a.eval s) (a.eval x) o.type R (ev_rel T s hargs.1) (ev_rel T x hargs.2)
          obtain ⟨cs, hcs⟩ := exec_builtin (P := P) (a := a) hc hcl
          unfold Oper.wp
          have : (execOp a.eval o).run P w = .ok (.value v) w' := by
            rw [hcs, arr2 ha, arr2 ht]
            simp only [builtin, Sem.run_bind, List.map_toArray, List.map_cons, List.map_nil]
            rw [q1]; rfl
          rw [this]
          exact wd_next (o := o) hdst.1 Rs E q3 q2 T hN (.inl q4) q5.1 q5.2.1 q5.2.2
        · exact he.elim
      · split at he
        · rename_i s x t u ha ht
          rw [ha] at hargs
          simp only [List.all_cons, List.all_nil, Bool.and_true, Bool.and_eq_true] at hargs
          obtain ⟨v, w', φ', r, h', q1, q2, q3, q4, q5⟩ := he hQ hk hops hsel B w0 φ w (a.eval s) (a.eval x) o.type R (ev_rel T s hargs.1) (ev_rel T x hargs.2)
          obtain ⟨cs, hcs⟩ := exec_builtin (P := P) (a := a) hc hcl
          unfold Oper.wp
          have : (execOp a.eval o).run P w = .ok (.value v) w' := by
            rw [hcs, arr2 ha, arr2 ht]
            simp only [builtin, Sem.run_bind, List.map_toArray, List.map_cons, List.map_nil]
            rw [q1]; rfl
          rw [this]
          exact wd_next (o := o) hdst.1 Rs E q3 q2 T hN (.inl q4) q5.1 q5.2.1 q5.2.2
        · exact he.elim
      · obtain ⟨x, v, h1, h2, h3⟩ := builtinW_sound hc hcl hargs T he
        unfold Oper.wp
        rw [h2 w]
        exact wd_next (o := o) hdst.1 Rs E (Ext.refl φ) R T hN (.inl h3) hst hn (ih _ h h1 hst hn)
    · exact he.elim
  · rename_i src dst x hc
    have hx : opdOk x = true := by have := hop2; rw [hc] at this; simpa [Op.operands] using this
    split at he
    · obtain ⟨v, w', φ', r, h', q1, q2, q3, q4, q5⟩ := he hQ hk hops hsel B w0 φ w (a.eval x) R (ev_rel T x hx)
      unfold Oper.wp
      have : (execOp a.eval o).run P w = .ok (.value v) w' := by simp only [execOp, hc, Sem.run_bind]; rw [q1]; rfl
      rw [this]
      exact wd_next (o := o) hdst.1 Rs E q3 q2 T hN (.inl q4) q5.1 q5.2.1 q5.2.2
    · rw [← hc] at he
      obtain ⟨x, v, h1, h2, h3⟩ := opW_any (by rw [hc]; rfl) hop2 T he
      unfold Oper.wp
      rw [h2 w]
      exact wd_next (o := o) hdst.1 Rs E (Ext.refl φ) R T hN (.inl h3) hst hn (ih _ h h1 hst hn)
  · rename_i op t x y u hc
    have hx : opdOk x = true ∧ opdOk y = true := by have := hop2; rw [hc] at this; simpa [Op.operands] using this
    split at he
    · obtain ⟨v, w', φ', r, h', q1, q2, q3, q4, q5⟩ := he hQ hk hops hsel B w0 φ w (a.eval x) (a.eval y) x y R (ev_rel T x hx.1) (ev_rel T y hx.2)
      unfold Oper.wp
      have h0' : (execOp a.eval o) = (do pure (.value (← (do eqGuard op t x y (a.eval x) (a.eval y); binOp op t (a.eval x) (a.eval y) : Sem Value))) : Sem Next) := by
        unfold execOp; rw [hc]
      have : (execOp a.eval o).run P w = .ok (.value v) w' := by rw [h0', Sem.run_bind, q1]; rfl
      rw [this]
      exact wd_next (o := o) hdst.1 Rs E q3 q2 T hN (.inl q4) q5.1 q5.2.1 q5.2.2
    · rw [← hc] at he
      obtain ⟨x, v, h1, h2, h3⟩ := opW_any (by rw [hc]; rfl) hop2 T he
      unfold Oper.wp
      rw [h2 w]
      exact wd_next (o := o) hdst.1 Rs E (Ext.refl φ) R T hN (.inl h3) hst hn (ih _ h h1 hst hn)
  · obtain ⟨φ', x, h', w', E', R', hkk, hrun⟩ := opW_sound hop2 R T he
    obtain ⟨⟨hs1, hs2⟩, hkk⟩ := hkk
    unfold Oper.wp
    rcases hrun with ⟨v, hrun, rv⟩ | ⟨hrun, rfl⟩
    · rw [hrun]
      exact wd_next (o := o) hdst.1 Rs E E' R' T hN (.inl rv) hs1 hs2 (ih _ h' hkk hs1 hs2)
    · rw [hrun]
      exact wd_next (o := o) hdst.1 Rs E E' R' T hN (.inr rfl) hs1 hs2 (ih _ h' hkk hs1 hs2)

/-- The operation i is carried out now. -/
theorem node_sound (hQ : PanFree Q) (hk : k.all (itOk N) = true) (hops : ops.all (opOk N) = true) (hsel : Region.noSelect ops = true) {i : Nat} {fuel : Nat} {listed : Array Bool} {t : TD} (hoi : ops[i]? = some o)
    (ih : ∀ τ h, RunD P N m Q k h0 exc ops fuel listed t τ h → Stay h0 exc h → h0.n ≤ h.n → WD P N (SemK P N Q k) h0 exc ops fuel listed τ h) (hst : Stay h0 exc h) (hn : h0.n ≤ h.n)
    (hr : match o.guard with
      | none => RunD.effW P N m Q k h0 exc ops fuel listed o τ h (fun τ' h' => RunD P N m Q k h0 exc ops fuel listed t τ' h')
      | some (j, want) => match gV ops.toList τ j with
        | some b => (b = want → RunD.effW P N m Q k h0 exc ops fuel listed o (gSet ops.toList j want τ) h (fun τ' h' => RunD P N m Q k h0 exc ops fuel listed t τ' h')) ∧
            (¬ b = want → RunD P N m Q k h0 exc ops fuel listed t (upo o.dst .any (gSet ops.toList j (!want) τ)) h)
        | none => False) {B : Nat} {w0 : World} {φs φ : Phi} {ws w : World} {a : Act}
    (Rs : Rel B w0 φs h0 ws) (E : Ext φs φ) (R : Rel B w0 φ h w) (T : RelT φ τ a) (hN : a.tmps.size = N) (hS : SW φs h0 exc w) :
    wpOp P ops (Post N B w0 φ a.defers (SemK P N Q k)) i (fun a' w' => SW φs h0 exc w' ∧ wpAnyH P .any ops (Post N B w0 φ a.defers (SemK P N Q k)) (SW φs h0 exc) fuel listed a' w') a w := by
  have hok : opOk N o = true := Array.all_eq_true_iff_forall_mem.1 hops o (Array.mem_of_getElem? hoi)
  have hdst := hok
  simp only [opOk, Bool.and_eq_true] at hdst
  have hallT : ops.toList.all (opOk N) = true := by rw [Array.all_toList]; exact hops
  unfold wpOp
  simp only [hoi]
  split at hr
  · rename_i hg
    have hw : Region.wanted o (yielded ops a.tmps) = true := by simp [Region.wanted, hg]
    simp only [hw, if_true]
    exact .inl (eff_sound hQ hk hops hsel hoi ih hst hn hr Rs E R T hN)
  · rename_i j want hg
    split at hr
    · rename_i b hb
      have hy := guard_yields T hN hallT hb
      rw [Array.toArray_toList] at hy
      by_cases e : b = want
      · have hw : Region.wanted o (yielded ops a.tmps) = true := by simp [Region.wanted, hg, hy, e]
        simp only [hw, if_true]
        exact .inl (eff_sound hQ hk hops hsel hoi ih hst hn (by have q := hr.1 e; rw [gSet_want hb e] at q; exact q) Rs E R T hN)
      · have hw : Region.wanted o (yielded ops a.tmps) = false := by simp [Region.wanted, hg, hy, e]
        simp only [hw, Bool.false_eq_true, if_false]
        obtain ⟨q1, q2, q3⟩ := put_rel (o := o) (v := undef) (x := .any) T hN hdst.1 (.inr rfl)
        have next := ih _ h (by have q := hr.2 e; rw [gSet_not hb e] at q; exact q) hst hn B w0 φs ws φ (a.put o.dst undef) w Rs E R q1 q2 hS
        rw [q3] at next
        exact ⟨hS, next⟩
    · exact hr.elim

/-- What a tree of orders comes to: the whole walk, and each of the operations that it tells. -/
theorem RunD_both (hQ : PanFree Q) (hk : k.all (itOk N) = true) (hops : ops.all (opOk N) = true) (hsel : Region.noSelect ops = true) :
    ∀ (td : TD) (pre : List Nat) (fuel : Nat) (listed : Array Bool) (τ : Tau) (h : H), drawOk ops pre listed td = true → RunD P N m Q k h0 exc ops fuel listed td τ h → Stay h0 exc h → h0.n ≤ h.n →
      (pre = [] → WD P N (SemK P N Q k) h0 exc ops fuel listed τ h) ∧
      (∀ fuel', fuel = fuel' + 1 → pre ≠ [] → ∀ j ∈ Region.ready .any ops listed, j ∉ pre → ∀ B w0 φs ws φ a w, Rel B w0 φs h0 ws → Ext φs φ → Rel B w0 φ h w → RelT φ τ a → a.tmps.size = N → SW φs h0 exc w →
        wpOp P ops (Post N B w0 φ a.defers (SemK P N Q k)) j (fun a' w' => SW φs h0 exc w' ∧ wpAnyH P .any ops (Post N B w0 φ a.defers (SemK P N Q k)) (SW φs h0 exc) fuel' (listed.setIfInBounds j true) a' w') a w) ∧
      (pre ≠ [] → fuel ≠ 0 ∧ Region.ready .any ops listed ≠ [])
  | .done, pre, fuel, listed, τ, h, hd, hr, hst, hn => by
    simp only [drawOk, Bool.and_eq_true, List.isEmpty_iff] at hd
    refine ⟨fun _ => ?_, fun _ _ hp => absurd hd.1 hp, fun hp => absurd hd.1 hp⟩
    intro B w0 φs ws φ a w Rs E R T hN hS
    have hr' : Run P N m Q k τ h := by unfold RunD at hr; exact hr
    exact wpAnyH_done hd.2 ⟨.normal, τ, h, φ, rfl, R, Ext.refl φ, T, hN, rfl, Run_sound m k τ h hk hr'⟩ fuel
  | .go fl i td, pre, 0, listed, τ, h, hd, hr, hst, hn => by unfold RunD at hr; exact hr.elim
  | .or i td r, pre, 0, listed, τ, h, hd, hr, hst, hn => by unfold RunD at hr; exact hr.elim
  | .go true i td, pre, fuel + 1, listed, τ, h, hd, hr, hst, hn => by
    simp only [drawOk, Bool.and_eq_true, if_true, List.isEmpty_iff] at hd
    obtain ⟨⟨hpre, hd1⟩, hd2⟩ := hd
    refine ⟨fun _ => ?_, fun _ _ hp => absurd hpre hp, fun hp => absurd hpre hp⟩
    have ih : ∀ τ h, RunD P N m Q k h0 exc ops fuel (listed.setIfInBounds i true) td τ h → Stay h0 exc h → h0.n ≤ h.n → WD P N (SemK P N Q k) h0 exc ops fuel (listed.setIfInBounds i true) τ h :=
      fun τ h q q1 q2 => (RunD_both hQ hk hops hsel td [] fuel (listed.setIfInBounds i true) τ h hd2 q q1 q2).1 rfl
    intro B w0 φs ws φ a w Rs E R T hN hS
    unfold RunD at hr
    split at hr
    · exact hr.elim
    · rename_i o ho
      have hoi : ops[i]? = some o := by rw [← Array.getElem?_toList]; exact ho
      have hok : opOk N o = true := Array.all_eq_true_iff_forall_mem.1 hops o (Array.mem_of_getElem? hoi)
      have hdst := hok
      simp only [opOk, Bool.and_eq_true] at hdst
      have hallT : ops.toList.all (opOk N) = true := by rw [Array.all_toList]; exact hops
      have takeF : Region.wanted o (yielded ops a.tmps) = true → floatC P h0 exc τ h o (fun v _ => RunD P N m Q k h0 exc ops fuel (listed.setIfInBounds i true) td (upo o.dst v τ) h) →
          wpAnyH P .any ops (Post N B w0 φ a.defers (SemK P N Q k)) (SW φs h0 exc) (fuel + 1) listed a w := by
        intro hw hf
        obtain ⟨x, v, h1, h2, h3⟩ := floatC_sound hok Rs E T hf
        obtain ⟨q1, q2, q3⟩ := put_rel (o := o) T hN hdst.1 (.inl h3)
        refine wpAnyH_take hoi hsel hd1.1 hd1.2 (fun c a' w' p => post_panic (panFree_semK hQ k) c a' w' _ _ p) (v := v) (.inl ⟨hw, fun w hw => h2 w hw⟩) hS ?_
        have := ih _ h h1 hst hn B w0 φs ws φ (a.put o.dst v) w Rs E R q1 q2 hS
        rw [q3] at this; exact this
      have skip : Region.wanted o (yielded ops a.tmps) = false → RunD P N m Q k h0 exc ops fuel (listed.setIfInBounds i true) td (upo o.dst .any τ) h →
          wpAnyH P .any ops (Post N B w0 φ a.defers (SemK P N Q k)) (SW φs h0 exc) (fuel + 1) listed a w := by
        intro hw hrun
        obtain ⟨q1, q2, q3⟩ := put_rel (o := o) (v := undef) (x := .any) T hN hdst.1 (.inr rfl)
        have next := ih _ h hrun hst hn B w0 φs ws φ (a.put o.dst undef) w Rs E R q1 q2 hS
        rw [q3] at next
        exact wpAnyH_take hoi hsel hd1.1 hd1.2 (fun c a' w' p => post_panic (panFree_semK hQ k) c a' w' _ _ p) (v := undef) (.inr ⟨hw, rfl⟩) hS next
      split at hr
      · rename_i hg
        have hw : Region.wanted o (yielded ops a.tmps) = true := by simp [Region.wanted, hg]
        simp only [if_true] at hr; exact takeF hw hr
      · rename_i j want hg
        split at hr
        · rename_i b hb
          have hy := guard_yields T hN hallT hb
          rw [Array.toArray_toList] at hy
          by_cases e : b = want
          · have hw : Region.wanted o (yielded ops a.tmps) = true := by simp [Region.wanted, hg, hy, e]
            have hr := hr.1 e
            rw [gSet_want hb e] at hr
            simp only [if_true] at hr; exact takeF hw hr
          · exact skip (by simp [Region.wanted, hg, hy, e]) (by have q := hr.2 e; rw [gSet_not hb e] at q; exact q)
        · exact hr.elim
  | .go false i td, pre, fuel + 1, listed, τ, h, hd, hr, hst, hn => by
    simp only [drawOk, Bool.and_eq_true, Bool.false_eq_true, if_false, beq_iff_eq] at hd
    obtain ⟨hd1, hd2⟩ := hd
    have ih : ∀ τ h, RunD P N m Q k h0 exc ops fuel (listed.setIfInBounds i true) td τ h → Stay h0 exc h → h0.n ≤ h.n → WD P N (SemK P N Q k) h0 exc ops fuel (listed.setIfInBounds i true) τ h :=
      fun τ h q q1 q2 => (RunD_both hQ hk hops hsel td [] fuel (listed.setIfInBounds i true) τ h hd2 q q1 q2).1 rfl
    have each : ∀ B w0 φs ws φ a w, Rel B w0 φs h0 ws → Ext φs φ → Rel B w0 φ h w → RelT φ τ a → a.tmps.size = N → SW φs h0 exc w →
        wpOp P ops (Post N B w0 φ a.defers (SemK P N Q k)) i (fun a' w' => SW φs h0 exc w' ∧ wpAnyH P .any ops (Post N B w0 φ a.defers (SemK P N Q k)) (SW φs h0 exc) fuel (listed.setIfInBounds i true) a' w') a w := by
      intro B w0 φs ws φ a w Rs E R T hN hS
      unfold RunD at hr
      split at hr
      · exact hr.elim
      · rename_i o ho
        have hoi : ops[i]? = some o := by rw [← Array.getElem?_toList]; exact ho
        simp only [Bool.false_eq_true, if_false] at hr
        exact node_sound hQ hk hops hsel hoi ih hst hn hr Rs E R T hN hS
    refine ⟨fun hp => ?_, fun fuel' hf hp j hj hnj => ?_, fun hp => ⟨by omega, by rw [hd1]; simp⟩⟩
    · subst hp
      intro B w0 φs ws φ a w Rs E R T hN hS
      refine wpAnyH_all hd1 (by simp) fun j hj => ?_
      simp only [List.nil_append, List.mem_singleton] at hj
      subst hj
      exact each B w0 φs ws φ a w Rs E R T hN hS
    · obtain rfl : fuel = fuel' := by omega
      rw [hd1] at hj
      simp only [List.mem_append, List.mem_singleton] at hj
      rcases hj with hj | rfl
      · exact absurd hj hnj
      · exact each
  | .or i td r, pre, fuel + 1, listed, τ, h, hd, hr, hst, hn => by
    simp only [drawOk, Bool.and_eq_true] at hd
    obtain ⟨hd1, hd2⟩ := hd
    have ih : ∀ τ h, RunD P N m Q k h0 exc ops fuel (listed.setIfInBounds i true) td τ h → Stay h0 exc h → h0.n ≤ h.n → WD P N (SemK P N Q k) h0 exc ops fuel (listed.setIfInBounds i true) τ h :=
      fun τ h q q1 q2 => (RunD_both hQ hk hops hsel td [] fuel (listed.setIfInBounds i true) τ h hd1 q q1 q2).1 rfl
    unfold RunD at hr
    obtain ⟨hr1, hr2⟩ := hr
    obtain ⟨-, rest, hne⟩ := RunD_both hQ hk hops hsel r (pre ++ [i]) (fuel + 1) listed τ h hd2 hr2 hst hn
    have hne2 := hne (by simp)
    have each : ∀ B w0 φs ws φ a w, Rel B w0 φs h0 ws → Ext φs φ → Rel B w0 φ h w → RelT φ τ a → a.tmps.size = N → SW φs h0 exc w →
        wpOp P ops (Post N B w0 φ a.defers (SemK P N Q k)) i (fun a' w' => SW φs h0 exc w' ∧ wpAnyH P .any ops (Post N B w0 φ a.defers (SemK P N Q k)) (SW φs h0 exc) fuel (listed.setIfInBounds i true) a' w') a w := by
      intro B w0 φs ws φ a w Rs E R T hN hS
      split at hr1
      · exact hr1.elim
      · rename_i o ho
        have hoi : ops[i]? = some o := by rw [← Array.getElem?_toList]; exact ho
        exact node_sound hQ hk hops hsel hoi ih hst hn hr1 Rs E R T hN hS
    have all : ∀ j ∈ Region.ready .any ops listed, j ∉ pre → ∀ B w0 φs ws φ a w, Rel B w0 φs h0 ws → Ext φs φ → Rel B w0 φ h w → RelT φ τ a → a.tmps.size = N → SW φs h0 exc w →
        wpOp P ops (Post N B w0 φ a.defers (SemK P N Q k)) j (fun a' w' => SW φs h0 exc w' ∧ wpAnyH P .any ops (Post N B w0 φ a.defers (SemK P N Q k)) (SW φs h0 exc) fuel (listed.setIfInBounds j true) a' w') a w := by
      intro j hj hnj
      by_cases e : j = i
      · subst e; exact each
      · exact rest fuel rfl (by simp) j hj (by simp [hnj, e])
    refine ⟨fun hp => ?_, fun fuel' hf hp j hj hnj => ?_, fun hp => ⟨by omega, hne2.2⟩⟩
    · subst hp
      intro B w0 φs ws φ a w Rs E R T hN hS
      exact wpAnyH_all rfl hne2.2 fun j hj => all j hj (by simp) B w0 φs ws φ a w Rs E R T hN hS
    · obtain rfl : fuel = fuel' := by omega
      exact all j hj hnj

theorem RunD_sound (hQ : PanFree Q) (hk : k.all (itOk N) = true) (hops : ops.all (opOk N) = true) (hsel : Region.noSelect ops = true)
    (td : TD) (fuel : Nat) (listed : Array Bool) (τ : Tau) (h : H) (hd : drawOk ops [] listed td = true) (hr : RunD P N m Q k h0 exc ops fuel listed td τ h) (hst : Stay h0 exc h) (hn : h0.n ≤ h.n) :
    WD P N (SemK P N Q k) h0 exc ops fuel listed τ h := (RunD_both hQ hk hops hsel td [] fuel listed τ h hd hr hst hn).1 rfl

/-- A region that draws its order, and what comes behind it. td: the order of the walk, each number with whether it is taken first. -/
theorem DrawThen.of {id : Nat} (m : Nat) (exc : List Nat) (td : TD) (hQ : PanFree Q) (hm : P.follows .mixedOrders = true) (hsel : Region.noSelect ops = true)
    (hd : drawOk ops [] (Array.replicate ops.size false) td = true) (hr : RunD P N m Q k h exc ops ops.size (Array.replicate ops.size false) td τ h) : DrawThen P N Q id ops k τ h := by
  intro hops hk B w0 φ a w R T hN
  have R' : Rel B w0 φ h { w with drawn := w.drawn + 1 } := R.grow ⟨rfl, rfl, rfl, Nat.le_refl _, fun _ _ _ => rfl⟩
  refine wp_region_held (S := SW φ h exc) hm ?_
  have hst : Stay h exc h := fun _ _ _ => rfl
  exact RunD_sound hQ hk hops hsel td _ _ τ h hd hr hst (Nat.le_refl _) B w0 φ _ φ a _ R' (Ext.refl φ) R' T hN (sw_of R' (Ext.refl φ) (Nat.le_refl _) hst)

/-- What a call in such a region must come to. -/
def dcallQ (P : Program) (N m : Nat) (Q : QT) (k : List It) (h0 : H) (exc : List Nat) (ops : Array Oper) (fuel : Nat) (listed : Array Bool) (td : TD) (d : Option Nat) (τ : Tau) : Res → H → Prop
  | .ret v, h => (Stay h0 exc h ∧ h0.n ≤ h.n) ∧ RunD P N m Q k h0 exc ops fuel listed td (upo d v τ) h
  | .pan v, h => Q (.pan v) τ h

theorem DCall.of {fuel : Nat} {listed : Array Bool} {f : Nat} {args : List V} {d : Option Nat} {R : Res → H → Prop} (m : Nat) (td : TD) (hd : drawOk ops [] listed td = true) (hc : CallsV P f args h R)
    (hr : ∀ r h', R r h' → dcallQ P N m Q k h0 exc ops fuel listed td d τ r h') : DCall P N Q h0 exc ops fuel listed k f args d τ h := by
  intro hQ hk hops hsel
  refine CallsV.mono hc fun r h' q => ?_
  have := hr r h' q
  cases r with
  | ret v => exact ⟨this.1.1, this.1.2, RunD_sound hQ hk hops hsel td _ _ _ _ hd this.2 this.1.1 this.1.2⟩
  | pan v => exact this

theorem DApp.of {fuel : Nat} {listed : Array Bool} {s x : V} {t u : TypeId} {d : Option Nat} {R : V → H → Prop} (m : Nat) (td : TD) (hd : drawOk ops [] listed td = true) (hc : AppV P h s x t u R)
    (hr : ∀ v h', R v h' → (Stay h0 exc h' ∧ h0.n ≤ h'.n) ∧ RunD P N m Q k h0 exc ops fuel listed td (upo d v τ) h') : DApp P N Q h0 exc ops fuel listed k s x t u d τ h := by
  intro hQ hk hops hsel B w0 φ w sv xv ty R1 r1 r2
  obtain ⟨v, w', φ', r, h', q1, q2, q3, q4, q5⟩ := hc B w0 φ w sv xv ty R1 r1 r2
  have := hr _ _ q5
  exact ⟨v, w', φ', r, h', q1, q2, q3, q4, this.1.1, this.1.2, RunD_sound hQ hk hops hsel td _ _ _ _ hd this.2 this.1.1 this.1.2⟩
theorem DCopy.of {fuel : Nat} {listed : Array Bool} {s x : V} {t u : TypeId} {d : Option Nat} {R : V → H → Prop} (m : Nat) (td : TD) (hd : drawOk ops [] listed td = true) (hc : CopyV P h s x t u R)
    (hr : ∀ v h', R v h' → (Stay h0 exc h' ∧ h0.n ≤ h'.n) ∧ RunD P N m Q k h0 exc ops fuel listed td (upo d v τ) h') : DCopy P N Q h0 exc ops fuel listed k s x t u d τ h := by
  intro hQ hk hops hsel B w0 φ w sv xv ty R1 r1 r2
  obtain ⟨v, w', φ', r, h', q1, q2, q3, q4, q5⟩ := hc B w0 φ w sv xv ty R1 r1 r2
  have := hr _ _ q5
  exact ⟨v, w', φ', r, h', q1, q2, q3, q4, this.1.1, this.1.2, RunD_sound hQ hk hops hsel td _ _ _ _ hd this.2 this.1.1 this.1.2⟩
theorem DConv.of {fuel : Nat} {listed : Array Bool} {src dst : TypeId} {x : V} {d : Option Nat} {R : V → H → Prop} (m : Nat) (td : TD) (hd : drawOk ops [] listed td = true) (hc : ConvV P h src dst x R)
    (hr : ∀ v h', R v h' → (Stay h0 exc h' ∧ h0.n ≤ h'.n) ∧ RunD P N m Q k h0 exc ops fuel listed td (upo d v τ) h') : DConv P N Q h0 exc ops fuel listed k src dst x d τ h := by
  intro hQ hk hops hsel B w0 φ w xv R1 r1
  obtain ⟨v, w', φ', r, h', q1, q2, q3, q4, q5⟩ := hc B w0 φ w xv R1 r1
  have := hr _ _ q5
  exact ⟨v, w', φ', r, h', q1, q2, q3, q4, this.1.1, this.1.2, RunD_sound hQ hk hops hsel td _ _ _ _ hd this.2 this.1.1 this.1.2⟩
theorem DEq.of {fuel : Nat} {listed : Array Bool} {op : BinOp} {t : TypeId} {x y : V} {d : Option Nat} {R : V → H → Prop} (m : Nat) (td : TD) (hd : drawOk ops [] listed td = true) (hc : EqV P h op t x y R)
    (hr : ∀ v h', R v h' → (Stay h0 exc h' ∧ h0.n ≤ h'.n) ∧ RunD P N m Q k h0 exc ops fuel listed td (upo d v τ) h') : DEq P N Q h0 exc ops fuel listed k op t x y d τ h := by
  intro hQ hk hops hsel B w0 φ w xv yv ox oy R1 r1 r2
  obtain ⟨v, w', φ', r, h', q1, q2, q3, q4, q5⟩ := hc B w0 φ w xv yv ox oy R1 r1 r2
  have := hr _ _ q5
  exact ⟨v, w', φ', r, h', q1, q2, q3, q4, this.1.1, this.1.2, RunD_sound hQ hk hops hsel td _ _ _ _ hd this.2 this.1.1 this.1.2⟩

end
end Go.VL
