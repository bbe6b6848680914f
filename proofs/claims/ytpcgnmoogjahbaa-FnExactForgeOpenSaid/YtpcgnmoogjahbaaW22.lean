/- A layer for walking through code on abstract values, told apart by who owns the memory: its definitions and their soundness; no condition. -/
import Derived.Test.YtpcgnmoogjahbaaW21
set_option linter.unusedVariables false
set_option linter.unusedSimpArgs false
namespace Go.W
open Go Go.RowKit

section
variable {C : Cx} {N n0 m : Nat} {Q : QT} {τ : Tau} {h h' : H} {k : List It} {o : Oper} {h0 : H} {exc : List Nat} {ops : Array Oper} {S : Nat → Prop} {w0 ws w w' : World} {φs φ φ' : Phi} {a : Act} {nw : List Nat}

theorem put_ne {d t : Nat} {v : Value} (e : ¬ t = d) : (a.put (some d) v).tmps.getD t undef = a.tmps.getD t undef := by
  unfold Act.put
  simp only [Array.getD_eq_getD_getElem?, Array.getElem?_setIfInBounds]
  rw [if_neg (fun h' => e h'.symm)]
theorem restr_put {x : V} {v : Value} (d : Option Nat) (T : RelT φ (restr nw τ) a) : RelT φ (restr (addN d nw) (upo d x τ)) (a.put d v) := by
  cases d with
  | none => exact T
  | some d =>
    intro t
    by_cases e : t = d
    · subst e
      have : restr (addN (some t) nw) (upo (some t) x τ) t = .any := by
        show (if (t :: nw).contains t = true then V.any else _) = _
        rw [if_pos (by simp)]
      rw [this]; exact relV_any
    · rw [put_ne e]
      have := T t
      unfold restr at this ⊢
      simp only [addN, upo, up, if_neg e, List.contains_cons, beq_iff_eq, e, Bool.or_eq_true, false_or] at this ⊢
      exact this
theorem restr_old {x : V} {v : Value} (d : Option Nat) (hd : (match d with | some d => decide (d < N) | none => true) = true) (hN : a.tmps.size = N) (r : RelV φ x v) (T : RelT φ (restr nw τ) a) : RelT φ (restr nw (upo d x τ)) (a.put d v) := by
  cases d with
  | none => exact T
  | some d =>
    simp only [decide_eq_true_eq] at hd
    intro t
    by_cases e : t = d
    · subst e
      unfold restr
      split
      · exact relV_any
      · simp only [upo, up, if_true]
        have : (a.put (some t) v).tmps.getD t undef = v := by
          unfold Act.put; simp [Array.getD_eq_getD_getElem?, hN, hd]
        rw [this]; exact r
    · rw [put_ne e]
      have := T t
      unfold restr at this ⊢
      simp only [upo, up, if_neg e] at this ⊢
      exact this

theorem post_panic {ds : List Deferred} {Q' : QT} (hQ : PanFree Q') (c : List PanicEntry) (a : Act) (w : World) (d : Option Nat) (v : Value)
    (p : Post N n0 S w0 φ ds Q' (.panic c) (a.put d v) w) : Post N n0 S w0 φ ds Q' (.panic c) a w := by
  obtain ⟨x, τ, h, φ', p1, p2, p3, p4, p5, p6, p7, p8⟩ := p
  cases x with
  | normal => simp only [XRel] at p1; cases p1
  | exit id => simp only [XRel] at p1; cases p1
  | ret => simp only [XRel] at p1; cases p1
  | pan u =>
    refine ⟨.pan u, fun _ => .any, h, φ', p1, p2, p3, p4, fun t => relV_any, ?_, ?_, hQ _ _ _ _ p8⟩
    · cases d with
      | none => exact p6
      | some d => simpa [Act.put] using p6
    · cases d with
      | none => exact p7
      | some d => exact p7

theorem Stay.show (hst : Stay h0 exc h) (hl : h.length ≤ h'.length) : Stay h0 exc (show_ h0 exc h h') := by
  refine ⟨by rw [unmask_len 0 h h' hl]; exact Nat.le_trans hst.1 hl, fun b hb => ?_⟩
  have hlt : b < h0.length := by simp only [hid, Bool.and_eq_true, decide_eq_true_eq] at hb; exact hb.1
  rw [unmask_get 0 h h' b hl, Nat.zero_add, if_pos ⟨Nat.lt_of_lt_of_le hlt hst.1, hb⟩]
  exact hst.2 b hb

/-- What holds in the midst of a region. -/
structure Mid (C : Cx) (N n0 : Nat) (h0 : H) (exc : List Nat) (S : Nat → Prop) (w0 : World) (φs : Phi) (ws : World) (φ : Phi) (a : Act) (w : World) (nw : List Nat) (τ : Tau) (h : H) : Prop where
  G : RelG C φs.z
  Rs : Rel S w0 φs h0 ws
  E : ExtN S w0 h0.length φs φ
  R : Rel S w0 φ h w
  st : Stay h0 exc h
  n : n0 ≤ h0.length
  T : RelT φ τ a
  To : RelT φs (restr nw τ) a
  N : a.tmps.size = N
  S : SW ws φs h0 exc w

/-- Behind what was carried out in its turn. -/
theorem Mid.next {x : V} {v : Value} (M : Mid C N n0 h0 exc S w0 φs ws φ a w nw τ h) (hd : (match o.dst with | some d => decide (d < N) | none => true) = true) :
    ∃ S1 : Nat → Prop, Rel S1 w φ (hide h0 exc h) w ∧ RelG C φ.z ∧ (∀ φ' h' w', Rel S1 w φ' h' w' → ExtN S1 w h.length φ φ' → h.length ≤ h'.length → ExtN S w0 n0 φs φ' ∧ Rel S w0 φ' (show_ h0 exc h h') w' ∧ n0 ≤ (show_ h0 exc h h').length ∧ RelT φ' τ a) ∧
      ∀ φ' h' w' x v, Rel S1 w φ' h' w' → ExtN S1 w h.length φ φ' → h.length ≤ h'.length → (RelV φ' x v ∨ x = .any) → Mid C N n0 h0 exc S w0 φs ws φ' (a.put o.dst v) w' (addN o.dst nw) (upo o.dst x τ) (show_ h0 exc h h') := by
  obtain ⟨S1, R1, back⟩ := M.R.hide h0.length exc
  refine ⟨S1, R1, M.G.mono M.E.z, fun φ' h' w' q1 q2 q3 => ?_, fun φ' h' w' x v q1 q2 q3 hr => ?_⟩
  · obtain ⟨R2, E2, km⟩ := back φ' h' w' q1 q2 q3
    exact ⟨(M.E.mono M.n).trans (E2.mono (Nat.le_trans M.n M.st.1)), R2, by rw [unmask_len 0 h h' q3]; exact Nat.le_trans M.n (Nat.le_trans M.st.1 q3), M.T.ext (M.R.ext E2)⟩
  · obtain ⟨R2, E2, km⟩ := back φ' h' w' q1 q2 q3
    obtain ⟨t1, t2, t3⟩ := put_rel (o := o) (M.T.ext (M.R.ext E2)) M.N hd hr
    refine ⟨M.G, M.Rs, M.E.trans (E2.mono M.st.1), R2, M.st.show q3, M.n, t1, restr_put o.dst M.To, t2, ⟨fun kk oo vv e => ?_, fun b kk n hh hm hl => ?_⟩⟩
    · obtain ⟨F2, RF2⟩ := R2
      exact RF2.zok kk oo vv (E2.z _ _ _ (M.E.z _ _ _ e))
    · have hlt : b < h0.length := by simp only [hid, Bool.and_eq_true, decide_eq_true_eq] at hh; exact hh.1
      rw [km b kk n (Nat.lt_of_lt_of_le hlt M.st.1) hh (by rw [M.E.m b hlt]; exact hm) (by rw [M.st.2 b hh]; exact hl)]
      exact M.S.m b kk n hh hm hl

theorem Mid.wd {fuel : Nat} {listed : Array Bool} {d : Option Nat} {v : Value} (M : Mid C N n0 h0 exc S w0 φs ws φ (a.put d v) w nw τ h) (hw : WD C N n0 Q h0 exc ops fuel listed nw τ h) :
    SW ws φs h0 exc w ∧ wpAnyH C.P .any ops (Post N n0 S w0 φs a.defers Q) (SW ws φs h0 exc) fuel listed (a.put d v) w := by
  have e : (a.put d v).defers = a.defers := by cases d <;> rfl
  have := hw S w0 φs ws φ _ w M.G M.Rs M.E M.R M.st M.n M.T M.To M.N M.S
  rw [e] at this
  exact ⟨M.S, this⟩

/-- A call of a Go function, in its turn. -/
theorem call_wp {c : Call} {fo : Operand} {f : Nat} {caps : List V} (ho : o.op = .call c) (hcl : c.callee = .value fo) (hok : opOk N o = true) (hf : ev C τ fo = .fn f caps) {hh : H}
    {R : Res → H → Prop} (hc : CallsV C f (evs C τ c.args.toList ++ caps) hh R) {K : Act → World → Prop}
    {Qp : Exit → Act → World → Prop} (G : RelG C φ.z) (Rl : Rel S w0 φ hh w) (T : RelT φ τ a)
    (hret : ∀ φ' x v h' w', ExtN S w0 hh.length φ φ' → hh.length ≤ h'.length → Rel S w0 φ' h' w' → RelV φ' x v → R (.ret x) h' → K (a.put o.dst v) w')
    (hpan : ∀ φ' x v h' w', ExtN S w0 hh.length φ φ' → hh.length ≤ h'.length → Rel S w0 φ' h' w' → RelV φ' x v → R (.pan x) h' → Qp (.panic [{ v, recovered := false }]) a w') : o.wp C.P a w K Qp := by
  simp only [opOk, Bool.and_eq_true] at hok
  obtain ⟨hd, hop⟩ := hok
  rw [ho] at hop
  simp only [Op.operands, Call.operands, hcl] at hop
  rw [← Array.all_toList] at hop
  simp only [Array.toList_append, List.all_append, Bool.and_eq_true] at hop
  have ef := ev_rel G T fo (by have := hop.1; simpa using this)
  rw [hf] at ef
  obtain ⟨cl, ef, hp⟩ := fn_rel ef
  have hrun : (execOp a.eval o).run C.P w = (callFunc f (#[] ++ c.args.map a.eval ++ cl.toArray)).run C.P w := by
    simp only [execOp, ho, resolve, hcl, ef, Deferred.ofValue, Sem.run_bind, Sem.run_pure, Result.andThen_ok, invoke]
  have hargs : All2 (RelV φ) (evs C τ c.args.toList ++ caps) (#[] ++ c.args.map a.eval ++ cl.toArray).toList := by
    have h1 := evs_rel G T (xs := c.args.toList) hop.2
    simpa using h1.append (fn_caps hp)
  rcases hc S w0 φ _ w G Rl hargs with ⟨he, hcalls⟩ | ⟨v, w', hv, r, φ', h', p1, p2, p3, p4, p5⟩
  · have hrun2 : (execOp a.eval o).run C.P w = .ok (.enter f (#[] ++ c.args.map a.eval ++ cl.toArray)) w := by
      rw [hrun]
      unfold enters at he
      cases hfn : C.P.funcs[f]? with
      | none => rw [hfn] at he; cases he
      | some fn =>
        rw [hfn] at he
        simp only [Bool.and_eq_true, bne_iff_ne, ne_eq] at he
        have h1 : ¬ fn.name = "runtime.NumGoroutine" := he.1
        have h2 : fn.body.isNone = false := by
          cases hb : fn.body with
          | none => rw [hb] at he; exact absurd he.2 (by simp)
          | some _ => rfl
        simp only [callFunc, run_program, Sem.run_bind, Result.andThen_ok, hfn]
        simp [h1, h2]
    unfold Oper.wp
    rw [hrun2]
    simp only [Oper.upon]
    refine hcalls.mono fun e w' ⟨r, φ', h', p1, p2, p3, p4, p5⟩ => ?_
    cases r with
    | ret x =>
      obtain ⟨cv, rfl, rv⟩ := p1
      exact hret φ' x cv h' w' p3 p4 p2 rv p5
    | pan x =>
      obtain ⟨cv, rfl, rv⟩ := p1
      exact hpan φ' x cv h' w' p3 p4 p2 rv p5
  · unfold Oper.wp
    rw [hrun, hv]
    simp only [Oper.upon]
    cases r with
    | ret x =>
      obtain ⟨cv, e, rv⟩ := p1
      cases e
      exact hret φ' x v h' w' p3 p4 p2 rv p5
    | pan x => obtain ⟨cv, e, rv⟩ := p1; cases e

theorem eff_sound (hQ : PanFree Q) (hk : k.all (itOk N) = true) (hops : ops.all (opOk N) = true) (hsel : Region.noSelect ops = true) {i : Nat} {fuel : Nat} {listed : Array Bool} (hok : opOk N o = true) {RR : List Nat → Tau → H → Prop}
    (ih : ∀ nw τ h, RR nw τ h → WD C N n0 (SemK C N n0 Q k) h0 exc ops fuel listed nw τ h) (M : Mid C N n0 h0 exc S w0 φs ws φ a w nw τ h)
    (he : effW C N n0 Q k h0 exc ops fuel listed RR o.dst nw τ h o.op) :
    o.wp C.P a w (fun a' w' => SW ws φs h0 exc w' ∧ wpAnyH C.P .any ops (Post N n0 S w0 φs a.defers (SemK C N n0 Q k)) (SW ws φs h0 exc) fuel listed a' w') (Post N n0 S w0 φs a.defers (SemK C N n0 Q k)) := by
  have hdst := hok
  simp only [opOk, Bool.and_eq_true] at hdst
  have hop2 : o.op.operands.all opdOk = true := by have := hdst.2; rw [← Array.all_toList] at this ⊢; exact this
  obtain ⟨S1, R1, G1, back, next⟩ := M.next (o := o) (x := .any) (v := undef) hdst.1
  have hml : (hide h0 exc h).length = h.length := mask_len 0 h
  -- an operation that has been carried out
  have fin : ∀ {K : V → H → Prop}, Did C.P o a w S1 w φ (hide h0 exc h).length K → (∀ v h', K v h' → WD C N n0 (SemK C N n0 Q k) h0 exc ops fuel listed (addN o.dst nw) (upo o.dst v τ) (show_ h0 exc h h')) →
      o.wp C.P a w (fun a' w' => SW ws φs h0 exc w' ∧ wpAnyH C.P .any ops (Post N n0 S w0 φs a.defers (SemK C N n0 Q k)) (SW ws φs h0 exc) fuel listed a' w') (Post N n0 S w0 φs a.defers (SemK C N n0 Q k)) := by
    intro K hd hK
    obtain ⟨φ', x, h', w', E', hl, R', hkk, hrun⟩ := hd
    rw [hml] at E' hl
    unfold Oper.wp
    rcases hrun with ⟨v, hrun, rv⟩ | ⟨hrun, rfl⟩
    · rw [hrun]
      exact (next φ' h' w' x v R' E' hl (.inl rv)).wd (hK _ _ hkk)
    · rw [hrun]
      exact (next φ' h' w' .any undef R' E' hl (.inr rfl)).wd (hK _ _ hkk)
  unfold effW at he
  split at he
  · rename_i fo args ts hc
    unfold dcallR at he
    split at he
    · rename_i f caps hf
      refine call_wp (c := ⟨.value fo, args, ts⟩) hc rfl hok hf (he hQ hk hops hsel) G1 R1 M.T (fun φ' x v h' w' E' hl R' rv q => ?_) (fun φ' x v h' w' E' hl R' rv q => ?_)
      · rw [hml] at E' hl
        exact (next φ' h' w' x v R' E' hl (.inl rv)).wd q
      · rw [hml] at E' hl
        obtain ⟨b1, b2, b3, b4⟩ := back φ' h' w' R' E' hl
        exact ⟨.pan x, τ, _, φ', ⟨v, rfl, rv⟩, b2, b1, b3, b4, M.N, rfl, semK_pan q⟩
    · exact he.elim
  · rename_i args ts hc
    unfold appR at he
    split at he
    · rename_i s x t u ha ht
      obtain ⟨p, q, e3, rfl, rfl⟩ := evs_two ha
      exact fin (sem_append (c := ⟨.builtin .append, args, ts⟩) hc rfl e3 ht (call_args hc rfl hok) R1 G1 M.T he) fun v h' q => ih _ _ _ q
    · exact he.elim
  · rename_i args ts hc
    unfold dcopyR at he
    split at he
    · rename_i s x t u ha ht
      obtain ⟨p, q, e3, rfl, rfl⟩ := evs_two ha
      have hargs := call_args (c := ⟨.builtin .copy, args, ts⟩) hc rfl hok
      rw [e3] at hargs
      simp only [List.all_cons, List.all_nil, Bool.and_true, Bool.and_eq_true] at hargs
      obtain ⟨v, w', φ', r, h', q1, q2, q3, q4, q5, q6⟩ := he hQ hk hops hsel S1 w φ w (a.eval p) (a.eval q) o.type R1 (ev_rel G1 M.T p hargs.1) (ev_rel G1 M.T q hargs.2)
      rw [hml] at q3 q4
      obtain ⟨cs, hcs⟩ := exec_builtin (P := C.P) (a := a) (c := ⟨.builtin .copy, args, ts⟩) hc rfl
      unfold Oper.wp
      have hrun : (execOp a.eval o).run C.P w = .ok (.value v) w' := by
        rw [hcs, arr2 e3, arr2 ht]
        simp only [builtin, Sem.run_bind, List.map_toArray, List.map_cons, List.map_nil]
        rw [q1]; rfl
      rw [hrun]
      exact (next φ' h' w' r v q2 q3 q4 (.inl q5)).wd q6
    · exact he.elim
  · rename_i b args ts _ _ hc
    obtain ⟨x, v, h1, h2, h3⟩ := builtinW_sound (c := ⟨.builtin b, args, ts⟩) hc rfl (call_args hc rfl hok) G1 M.T he
    unfold Oper.wp
    rw [h2 w]
    obtain ⟨t1, t2, t3⟩ := put_rel (o := o) M.T M.N hdst.1 (.inl h3)
    have M' : Mid C N n0 h0 exc S w0 φs ws φ (a.put o.dst v) w (addN o.dst nw) (upo o.dst x τ) h := ⟨M.G, M.Rs, M.E, M.R, M.st, M.n, t1, restr_put o.dst M.To, t2, M.S⟩
    exact M'.wd (ih _ _ _ h1)
  · exact he.elim
  · exact fin (opW_sound hop2 R1 G1 M.T he) fun v h' q => ih _ _ _ q

/-- What each operation must come to that can come up. -/
def Each (C : Cx) (N n0 : Nat) (Q : QT) (h0 : H) (exc : List Nat) (ops : Array Oper) (i fuel : Nat) (listed : Array Bool) (nw : List Nat) (τ : Tau) (h : H) : Prop :=
  ∀ S w0 φs ws φ a w, Mid C N n0 h0 exc S w0 φs ws φ a w nw τ h →
    wpOp C.P ops (Post N n0 S w0 φs a.defers Q) i (fun a' w' => SW ws φs h0 exc w' ∧ wpAnyH C.P .any ops (Post N n0 S w0 φs a.defers Q) (SW ws φs h0 exc) fuel (listed.setIfInBounds i true) a' w') a w

theorem guardD_split {j : Nat} {want : Bool} {b : Option Bool} {yes no : Prop} (h : guardD yes no want b) : ∃ b', b = some b' ∧ (b' = want → yes) ∧ (¬ b' = want → no) := by
  unfold guardD at h
  split at h
  · rename_i b'; exact ⟨b', rfl, h.1, fun e => h.2 (by simpa using e)⟩
  · rename_i b'; exact ⟨b', rfl, h.2, fun e => h.1 (by simpa using e)⟩
  · exact h.elim

theorem node_sound (hQ : PanFree Q) (hk : k.all (itOk N) = true) (hops : ops.all (opOk N) = true) (hsel : Region.noSelect ops = true) {i fuel : Nat} {listed : Array Bool} {RR : List Nat → Tau → H → Prop}
    (ih : ∀ nw τ h, RR nw τ h → WD C N n0 (SemK C N n0 Q k) h0 exc ops fuel (listed.setIfInBounds i true) nw τ h)
    (hr : nodeW C N n0 Q k h0 exc ops fuel (listed.setIfInBounds i true) RR nw τ h .eff (ops.toList[i]?)) : Each C N n0 (SemK C N n0 Q k) h0 exc ops i fuel listed nw τ h := by
  intro S w0 φs ws φ a w M
  cases hoi' : ops.toList[i]? with
  | none => rw [hoi'] at hr; exact hr.elim
  | some o =>
    rw [hoi'] at hr
    have hoi : ops[i]? = some o := by rw [← Array.getElem?_toList]; exact hoi'
    have hok : opOk N o = true := Array.all_eq_true_iff_forall_mem.1 hops o (Array.mem_of_getElem? hoi)
    have hdst := hok
    simp only [opOk, Bool.and_eq_true] at hdst
    have hallT : ops.toList.all (opOk N) = true := by rw [Array.all_toList]; exact hops
    obtain ⟨d, op, ty, pos, after, g⟩ := o
    unfold wpOp
    simp only [hoi]
    cases g with
    | none =>
      have hw : Region.wanted ⟨d, op, ty, pos, after, none⟩ (yielded ops a.tmps) = true := by simp [Region.wanted]
      simp only [hw, if_true]
      exact .inl (eff_sound hQ hk hops hsel hok (i := i) ih M hr)
    | some jw =>
      obtain ⟨j, want⟩ := jw
      simp only [nodeW] at hr
      obtain ⟨b, hb, h1, h2⟩ := guardD_split (j := j) hr
      have hy := guard_yields M.T M.N hallT hb
      rw [Array.toArray_toList] at hy
      by_cases e : b = want
      · have hw : Region.wanted ⟨d, op, ty, pos, after, some (j, want)⟩ (yielded ops a.tmps) = true := by simp [Region.wanted, hy, e]
        simp only [hw, if_true]
        have q := h1 e
        rw [gSet_want hb e] at q
        exact .inl (eff_sound hQ hk hops hsel hok (i := i) ih M q)
      · have hw : Region.wanted ⟨d, op, ty, pos, after, some (j, want)⟩ (yielded ops a.tmps) = false := by simp [Region.wanted, hy, e]
        simp only [hw, Bool.false_eq_true, if_false]
        have q := h2 e
        rw [gSet_not hb e] at q
        obtain ⟨t1, t2, t3⟩ := put_rel (o := ⟨d, op, ty, pos, after, some (j, want)⟩) (v := undef) (x := .any) M.T M.N hdst.1 (.inr rfl)
        have M' : Mid C N n0 h0 exc S w0 φs ws φ (a.put d undef) w (addN d nw) (upo d .any τ) h := ⟨M.G, M.Rs, M.E, M.R, M.st, M.n, t1, restr_put d M.To, t2, M.S⟩
        exact M'.wd (ih _ _ _ q)

/-- An operation that's taken first. -/
theorem first_sound (hQ : PanFree Q) (hops : ops.all (opOk N) = true) (hsel : Region.noSelect ops = true) {i fuel : Nat} {listed : Array Bool} {RR : List Nat → Tau → H → Prop} {Q' : QT} (hQ' : PanFree Q') (md : Md) (hmd : ∀ x, md = x → x = .old ∨ x = .new)
    (hfree : freeOk ops listed i = true) (ih : ∀ nw τ h, RR nw τ h → WD C N n0 Q' h0 exc ops fuel (listed.setIfInBounds i true) nw τ h)
    (hr : nodeW C N n0 Q k h0 exc ops fuel (listed.setIfInBounds i true) RR nw τ h md (ops.toList[i]?)) : WD C N n0 Q' h0 exc ops (fuel + 1) listed nw τ h := by
  intro S w0 φs ws φ a w G Rs E R hst hn T To hN hS
  have M : Mid C N n0 h0 exc S w0 φs ws φ a w nw τ h := ⟨G, Rs, E, R, hst, hn, T, To, hN, hS⟩
  simp only [freeOk, Bool.and_eq_true] at hfree
  cases hoi' : ops.toList[i]? with
  | none => rw [hoi'] at hr; exact hr.elim
  | some o =>
    rw [hoi'] at hr
    have hoi : ops[i]? = some o := by rw [← Array.getElem?_toList]; exact hoi'
    have hok : opOk N o = true := Array.all_eq_true_iff_forall_mem.1 hops o (Array.mem_of_getElem? hoi)
    have hdst := hok
    simp only [opOk, Bool.and_eq_true] at hdst
    have hallT : ops.toList.all (opOk N) = true := by rw [Array.all_toList]; exact hops
    have act : Region.wanted o (yielded ops a.tmps) = true → actW C N n0 Q k h0 exc ops fuel (listed.setIfInBounds i true) RR o.dst nw τ h o.op md →
        wpAnyH C.P .any ops (Post N n0 S w0 φs a.defers Q') (SW ws φs h0 exc) (fuel + 1) listed a w := by
      intro hw ha
      cases md with
      | eff => rcases hmd _ rfl with q | q <;> cases q
      | old =>
        obtain ⟨x, v, q1, q2, q3⟩ := oldW_sound hok G Rs To ha
        obtain ⟨t1, t2, t3⟩ := put_rel (o := o) T hN hdst.1 (.inl (q3.ext (Rs.ext E)))
        refine wpAnyH_take hoi hsel hfree.1 hfree.2 (fun c a' w' p => post_panic hQ' c a' w' _ _ p) (v := v) (.inl ⟨hw, fun w hw => q2 w hw⟩) hS ?_
        have M' : Mid C N n0 h0 exc S w0 φs ws φ (a.put o.dst v) w nw (upo o.dst x τ) h := ⟨G, Rs, E, R, hst, hn, t1, restr_old o.dst hdst.1 hN q3 To, t2, hS⟩
        exact (M'.wd (ih _ _ _ q1)).2
      | new =>
        obtain ⟨x, v, q1, q2, q3⟩ := newW_sound hok (G.mono E.z) R T ha
        obtain ⟨t1, t2, t3⟩ := put_rel (o := o) T hN hdst.1 (.inl q3)
        refine wpAnyH_take hoi hsel hfree.1 hfree.2 (fun c a' w' p => post_panic hQ' c a' w' _ _ p) (v := v) (.inl ⟨hw, fun w _ => q2 w⟩) hS ?_
        have M' : Mid C N n0 h0 exc S w0 φs ws φ (a.put o.dst v) w (addN o.dst nw) (upo o.dst x τ) h := ⟨G, Rs, E, R, hst, hn, t1, restr_put o.dst To, t2, hS⟩
        exact (M'.wd (ih _ _ _ q1)).2
    obtain ⟨d, op, ty, pos, after, g⟩ := o
    cases g with
    | none => exact act (by simp [Region.wanted]) hr
    | some jw =>
      obtain ⟨j, want⟩ := jw
      simp only [nodeW] at hr
      obtain ⟨b, hb, h1, h2⟩ := guardD_split (j := j) hr
      have hy := guard_yields T hN hallT hb
      rw [Array.toArray_toList] at hy
      by_cases e : b = want
      · have q := h1 e
        rw [gSet_want hb e] at q
        exact act (by simp [Region.wanted, hy, e]) q
      · have hw : Region.wanted ⟨d, op, ty, pos, after, some (j, want)⟩ (yielded ops a.tmps) = false := by simp [Region.wanted, hy, e]
        have q := h2 e
        rw [gSet_not hb e] at q
        obtain ⟨t1, t2, t3⟩ := put_rel (o := ⟨d, op, ty, pos, after, some (j, want)⟩) (v := undef) (x := .any) T hN hdst.1 (.inr rfl)
        refine wpAnyH_take hoi hsel hfree.1 hfree.2 (fun c a' w' p => post_panic hQ' c a' w' _ _ p) (v := undef) (.inr ⟨hw, rfl⟩) hS ?_
        have M' : Mid C N n0 h0 exc S w0 φs ws φ (a.put d undef) w (addN d nw) (upo d .any τ) h := ⟨G, Rs, E, R, hst, hn, t1, restr_put d To, t2, hS⟩
        exact (M'.wd (ih _ _ _ q)).2

/-- What a tree of orders comes to: the whole walk, and each of the operations that it tells. -/
theorem RunD_both (hQ : PanFree Q) (hk : k.all (itOk N) = true) (hops : ops.all (opOk N) = true) (hsel : Region.noSelect ops = true) :
    ∀ (td : TD) (pre : List Nat) (fuel : Nat) (listed : Array Bool) (nw : List Nat) (τ : Tau) (h : H), drawOk ops pre listed td = true → RunD C N n0 m Q k h0 exc ops fuel listed td nw τ h →
      (pre = [] → WD C N n0 (SemK C N n0 Q k) h0 exc ops fuel listed nw τ h) ∧
      (∀ fuel', fuel = fuel' + 1 → pre ≠ [] → ∀ j ∈ Region.ready .any ops listed, j ∉ pre → Each C N n0 (SemK C N n0 Q k) h0 exc ops j fuel' listed nw τ h) ∧
      (pre ≠ [] → fuel ≠ 0 ∧ Region.ready .any ops listed ≠ [])
  | .done, pre, fuel, listed, nw, τ, h, hd, hr => by
    simp only [drawOk, Bool.and_eq_true, List.isEmpty_iff] at hd
    refine ⟨fun _ => ?_, fun _ _ hp => absurd hd.1 hp, fun hp => absurd hd.1 hp⟩
    intro S w0 φs ws φ a w G Rs E R hst hn T To hN hS
    have hr' : Run C N n0 m Q k τ h := by unfold RunD at hr; exact hr
    exact wpAnyH_done hd.2 ⟨.normal, τ, h, φ, rfl, R, E.mono hn, Nat.le_trans hn hst.1, T, hN, rfl, Run_sound m Q k τ h hk hr'⟩ fuel
  | .old i td, pre, 0, listed, nw, τ, h, hd, hr => by simp only [RunD] at hr
  | .new i td, pre, 0, listed, nw, τ, h, hd, hr => by simp only [RunD] at hr
  | .go i td, pre, 0, listed, nw, τ, h, hd, hr => by simp only [RunD] at hr
  | .or i td r, pre, 0, listed, nw, τ, h, hd, hr => by simp only [RunD] at hr
  | .old i td, pre, fuel + 1, listed, nw, τ, h, hd, hr => by
    simp only [drawOk, Bool.and_eq_true, List.isEmpty_iff] at hd
    obtain ⟨⟨hpre, hd1⟩, hd2⟩ := hd
    refine ⟨fun _ => ?_, fun _ _ hp => absurd hpre hp, fun hp => absurd hpre hp⟩
    simp only [RunD] at hr
    exact first_sound hQ hops hsel (panFree_semK hQ k) .old (fun x e => .inl e.symm) hd1 (fun nw τ h q => (RunD_both hQ hk hops hsel td [] fuel (listed.setIfInBounds i true) nw τ h hd2 q).1 rfl) hr
  | .new i td, pre, fuel + 1, listed, nw, τ, h, hd, hr => by
    simp only [drawOk, Bool.and_eq_true, List.isEmpty_iff] at hd
    obtain ⟨⟨hpre, hd1⟩, hd2⟩ := hd
    refine ⟨fun _ => ?_, fun _ _ hp => absurd hpre hp, fun hp => absurd hpre hp⟩
    simp only [RunD] at hr
    exact first_sound hQ hops hsel (panFree_semK hQ k) .new (fun x e => .inr e.symm) hd1 (fun nw τ h q => (RunD_both hQ hk hops hsel td [] fuel (listed.setIfInBounds i true) nw τ h hd2 q).1 rfl) hr
  | .go i td, pre, fuel + 1, listed, nw, τ, h, hd, hr => by
    simp only [drawOk, Bool.and_eq_true, beq_iff_eq] at hd
    obtain ⟨hd1, hd2⟩ := hd
    simp only [RunD] at hr
    have each := node_sound hQ hk hops hsel (fun nw τ h q => (RunD_both hQ hk hops hsel td [] fuel (listed.setIfInBounds i true) nw τ h hd2 q).1 rfl) hr
    refine ⟨fun hp => ?_, fun fuel' hf hp j hj hnj => ?_, fun hp => ⟨by omega, by rw [hd1]; simp⟩⟩
    · subst hp
      intro S w0 φs ws φ a w G Rs E R hst hn T To hN hS
      refine wpAnyH_all hd1 (by simp) fun j hj => ?_
      simp only [List.nil_append, List.mem_singleton] at hj
      subst hj
      exact each S w0 φs ws φ a w ⟨G, Rs, E, R, hst, hn, T, To, hN, hS⟩
    · obtain rfl : fuel = fuel' := by omega
      rw [hd1] at hj
      simp only [List.mem_append, List.mem_singleton] at hj
      rcases hj with hj | rfl
      · exact absurd hj hnj
      · exact each
  | .or i td r, pre, fuel + 1, listed, nw, τ, h, hd, hr => by
    simp only [drawOk, Bool.and_eq_true] at hd
    obtain ⟨hd1, hd2⟩ := hd
    simp only [RunD] at hr
    obtain ⟨hr1, hr2⟩ := hr
    obtain ⟨-, rest, hne⟩ := RunD_both hQ hk hops hsel r (pre ++ [i]) (fuel + 1) listed nw τ h hd2 hr2
    have hne2 := hne (by simp)
    have each := node_sound hQ hk hops hsel (fun nw τ h q => (RunD_both hQ hk hops hsel td [] fuel (listed.setIfInBounds i true) nw τ h hd1 q).1 rfl) hr1
    have all : ∀ j ∈ Region.ready .any ops listed, j ∉ pre → Each C N n0 (SemK C N n0 Q k) h0 exc ops j fuel listed nw τ h := by
      intro j hj hnj
      by_cases e : j = i
      · subst e; exact each
      · exact rest fuel rfl (by simp) j hj (by simp [hnj, e])
    refine ⟨fun hp => ?_, fun fuel' hf hp j hj hnj => ?_, fun hp => ⟨by omega, hne2.2⟩⟩
    · subst hp
      intro S w0 φs ws φ a w G Rs E R hst hn T To hN hS
      exact wpAnyH_all rfl hne2.2 fun j hj => all j hj (by simp) S w0 φs ws φ a w ⟨G, Rs, E, R, hst, hn, T, To, hN, hS⟩
    · obtain rfl : fuel = fuel' := by omega
      exact all j hj hnj

/-- A region that draws its order, and what comes behind it. exc: the blocks that the region writes. -/
theorem DrawThen.of {id : Nat} (m : Nat) (exc : List Nat) (td : TD) (hQ : PanFree Q) (hm : C.P.follows .mixedOrders = true) (hsel : Region.noSelect ops = true)
    (hd : drawOk ops [] (Array.replicate ops.size false) td = true) (hr : RunD C N n0 m Q k h exc ops ops.size (Array.replicate ops.size false) td [] τ h) : DrawThen C N n0 Q id ops k τ h := by
  intro hops hk S w0 φ a w G R hn T hN
  have R' : Rel S w0 φ h { w with drawn := w.drawn + 1 } := R.grow ⟨rfl, rfl, rfl, Nat.le_refl _, fun _ _ _ => rfl⟩
  refine wp_region_held (S := SW { w with drawn := w.drawn + 1 } φ h exc) hm ?_
  refine (RunD_both hQ hk hops hsel td [] _ _ [] τ h hd hr).1 rfl S w0 φ _ φ a _ G R' (ExtN.refl ..) R' ⟨Nat.le_refl _, fun _ _ => rfl⟩ hn T (by rw [restr_nil]; exact T) hN ⟨?_, fun _ _ _ _ _ _ => rfl⟩
  obtain ⟨F, RF⟩ := R'
  exact RF.zok

/-- What a call in such a region must come to. -/
def dcallQ (C : Cx) (N n0 m : Nat) (Q : QT) (k : List It) (h0 : H) (exc : List Nat) (ops : Array Oper) (fuel : Nat) (listed : Array Bool) (td : TD) (d : Option Nat) (nw : List Nat) (τ : Tau) (h : H) : Res → H → Prop
  | .ret v, h' => RunD C N n0 m Q k h0 exc ops fuel listed td (addN d nw) (upo d v τ) (show_ h0 exc h h')
  | .pan v, h' => Q (.pan v) τ (show_ h0 exc h h')
theorem DCall.of {fuel : Nat} {listed : Array Bool} {f : Nat} {args : List V} {d : Option Nat} {R : Res → H → Prop} (m : Nat) (td : TD) (hd : drawOk ops [] listed td = true) (hc : CallsV C f args (hide h0 exc h) R)
    (hr : ∀ r h', R r h' → dcallQ C N n0 m Q k h0 exc ops fuel listed td d nw τ h r h') : DCall C N n0 Q h0 exc ops fuel listed k f args d nw τ h := by
  intro hQ hk hops hsel
  refine CallsV.mono hc fun r h' q => ?_
  have := hr r h' q
  cases r with
  | ret v => exact (RunD_both hQ hk hops hsel td [] _ _ _ _ _ hd this).1 rfl
  | pan v => exact this
theorem DCopy.of {fuel : Nat} {listed : Array Bool} {s x : V} {t u : TypeId} {d : Option Nat} {R : V → H → Prop} (m : Nat) (td : TD) (hd : drawOk ops [] listed td = true) (hc : CopyV C (hide h0 exc h) s x t u R)
    (hr : ∀ v h', R v h' → RunD C N n0 m Q k h0 exc ops fuel listed td (addN d nw) (upo d v τ) (show_ h0 exc h h')) : DCopy C N n0 Q h0 exc ops fuel listed k s x t u d nw τ h := by
  intro hQ hk hops hsel S w0 φ w sv xv ty R1 r1 r2
  obtain ⟨v, w', φ', r, h', q1, q2, q3, q4, q5, q6⟩ := hc S w0 φ w sv xv ty R1 r1 r2
  exact ⟨v, w', φ', r, h', q1, q2, q3, q4, q5, (RunD_both hQ hk hops hsel td [] _ _ _ _ _ hd (hr _ _ q6)).1 rfl⟩

end
end Go.W
