/- A layer for walking through code on abstract values, told apart by who owns the memory: its definitions and their soundness; no condition. -/
import Derived.Test.YtpcgnmoogjahbaaWS
set_option linter.unusedVariables false
set_option linter.unusedSimpArgs false
namespace Go.W
open Go Go.RowKit

/-! ### Functions whose answer stays -/
/-- f answers r: nothing of one's own is handed over, and nothing is left. -/
structure PureV (C : Cx) (f : Nat) (args : List V) (r : V) : Prop where
  cr : ∀ ρ, rnV ρ r = r
  ca : ∀ ρ, args.map (rnV ρ) = args
  calls : CallsV C f args [] fun res h' => res = .ret r ∧ h' = []

def tupP (d : Nat) (K : V → Prop) (h : H) : List V → Prop
  | [v] => K (frz 0 d h v)
  | vs => vs.all notTup = true ∧ K (frz 0 d h (.tup vs))
def pureQ (C : Cx) (fn : Func) (d : Nat) (K : V → Prop) : QT
  | .normal, τ, h => resW C h τ fn.results.toList (tupP d K h)
  | .ret, τ, h => resW C h τ fn.results.toList (tupP d K h)
  | _, _, _ => False

theorem frz_closed (r : Nat → Nat) (n0 : Nat) (h : H) : ∀ (d : Nat) (v : V), rnP r (frz n0 d h v) = frz n0 d h v ∧ rnC r (frz n0 d h v) = frz n0 d h v ∧ rnQ r (frz n0 d h v) = frz n0 d h v ∧ rnV r (frz n0 d h v) = frz n0 d h v
  | 0, v => by cases v <;> simp [frz, rnC, rnP, rnQ, rnV]
  | d + 1, v => by
    have ih := fun v => frz_closed r n0 h d v
    cases v with
    | sl b off len cap =>
      rw [frz_sl]; split
      · simp [rnC, rnP, rnQ, rnV]
      · unfold frzL; split <;> simp [rnC, rnP, rnQ, rnV]
    | ptr b i o =>
      rw [frz_ptr]; split
      · simp [rnC, rnP, rnQ, rnV]
      · unfold frzP; split <;> simp [rnC, rnP, rnQ, rnV]
    | fn f caps =>
      have e : (caps.map (frz n0 d h)).map (rnP r) = caps.map (frz n0 d h) := by simp [fun v => (ih v).1]
      simp only [frz, rnC, rnP, rnQ, rnV, e, and_self]
    | agg cs =>
      have e : (cs.map (frz n0 d h)).map (rnC r) = cs.map (frz n0 d h) := by simp [fun v => (ih v).2.1]
      simp only [frz, rnC, rnP, rnQ, rnV, e, and_self]
    | tup cs =>
      have e : (cs.map (frz n0 d h)).map (rnQ r) = cs.map (frz n0 d h) := by simp [fun v => (ih v).2.2.1]
      simp only [frz, rnC, rnP, rnQ, rnV, e, and_self]
    | _ => simp [frz, rnC, rnP, rnQ, rnV]

theorem Up.pure {C : Cx} {h : H} {R : Res → H → Prop} {v : V} (d : Nat) (hr : R (.ret (frz 0 d h v)) []) : Up 0 R (.ret v) h := by
  refine ⟨frz 0 d h v, [], _, (Arr.frz d).trans (Arr.gc (l := []) (h' := []) ?_), ⟨frz 0 d h v, .inr rfl, .inr ?_⟩, hr⟩
  · exact ⟨rfl, List.nodup_nil, Nat.le_refl _, fun i hi => by omega, fun i B' hB => by simp at hB⟩
  · exact (frz_closed _ 0 h d v).2.2.2.symm

theorem resW_mono {C : Cx} {h : H} {τ : Tau} {K K' : List V → Prop} (hk : ∀ vs, K vs → K' vs) : ∀ {rs : List ResultVar}, resW C h τ rs K → resW C h τ rs K' := by
  intro rs
  induction rs generalizing K K' with
  | nil => intro q; simp only [resW] at *; exact hk _ q
  | cons x rs ih =>
    intro q
    cases x with
    | tmp t => simp only [resW] at *; exact ih (fun vs q => hk _ q) q
    | cell a t =>
      simp only [resW] at *
      unfold rsP at *
      split at q
      · unfold rsT at *
        split at q
        · unfold rsA at *
          split at q
          · exact ⟨q.1, ih (fun vs q => hk _ q) q.2⟩
          · exact q.elim
        · unfold rsC at *
          split at q
          · exact q.elim
          · exact q.elim
          · rename_i v _ _ hv
            exact ⟨q.1, ih (fun vs q => hk _ q) q.2⟩
          · exact q.elim
        · exact q.elim
      · exact q.elim

theorem pureQ_body {C : Cx} {fn : Func} {d : Nat} {K : V → Prop} {R : Res → H → Prop} (hK : ∀ v, K v → R (.ret v) []) : ∀ x τ h, pureQ C fn d K x τ h → bodyQ C 0 fn R x τ h := by
  have key : ∀ τ h, resW C h τ fn.results.toList (tupP d K h) → resW C h τ fn.results.toList (tupOf 0 R h) := fun τ h q => by
    refine resW_mono (fun vs q => ?_) q
    match vs, q with
    | [], q => exact ⟨rfl, Up.pure (C := C) d (hK _ q.2)⟩
    | [v], q => exact Up.pure (C := C) d (hK _ q)
    | a :: b :: r, q => exact ⟨q.1, Up.pure (C := C) d (hK _ q.2)⟩
  intro x τ h q
  cases x with
  | normal => exact key τ h q
  | ret => exact key τ h q
  | exit id => exact q.elim
  | pan v => exact q.elim
/-- A function is entered. -/
theorem calls_of_wc {C : Cx} {h : H} {f : Nat} {fn : Func} {c : Code} {args : List V} {R : Res → H → Prop} (hf : C.P.funcs[f]? = some fn) (hb : fn.body = some c) (hn : enters C.P f = true)
    (hc : codeOk fn.ntmps c = true) (hl : args.length ≤ fn.ntmps) (hsem : WC C fn.ntmps h.length c (bodyQ C h.length fn R) (argsT args) h) : CallsV C f args h R := by
  intro S w0 φ vs w G Rl ha
  refine .inl ⟨hn, ?_⟩
  refine calls_of_wp hf hb ?_
  have hlen := ha.length
  simp at hlen
  have := hsem S w0 φ { tmps := vs ++ Array.replicate (fn.ntmps - vs.size) undef, defers := [] } w G Rl (Nat.le_refl _) (argsT_rel ha) (by simp; omega)
  refine wp_mono this ?_
  rintro e a w' ⟨x, τ, h', φ', p1, p2, p3, p4, p5, p6, p7, p8⟩
  have fin : ∀ {v : Value} {r : Res}, ResRel φ' r (.returned v) → Up h.length R r h' → ∃ r φ'' h'', ResRel φ'' r (.returned v) ∧ Rel S w0 φ'' h'' w' ∧ ExtN S w0 h.length φ φ'' ∧ h.length ≤ h''.length ∧ R r h'' := by
    intro v r q2 q3
    cases r with
    | ret x =>
      obtain ⟨v', h'', M, ar, hm, hR⟩ := q3
      obtain ⟨φ'', R'', e'', hn'', m''⟩ := ar S w0 φ' w' p2 p4
      obtain ⟨cv, e, rv⟩ := q2
      exact ⟨.ret v', φ'', h'', ⟨cv, e, m'' _ _ _ hm rv⟩, R'', p3.trans e'', hn'', hR⟩
    | pan x => obtain ⟨cv, e, rv⟩ := q2; cases e
  cases x with
  | normal =>
    simp only [XRel] at p1; subst p1
    obtain ⟨v, r, q1, q2, q3⟩ := results_run p2 p5 p8
    exact ⟨p7, v, q1, fin q2 q3⟩
  | ret =>
    simp only [XRel] at p1; subst p1
    obtain ⟨v, r, q1, q2, q3⟩ := results_run p2 p5 p8
    exact ⟨p7, v, q1, fin q2 q3⟩
  | exit id => exact p8.elim
  | pan v =>
    obtain ⟨u, rfl, q⟩ := p1
    obtain ⟨v', h'', M, ar, hm, hR⟩ := p8
    obtain ⟨φ'', R'', e'', hn'', m''⟩ := ar S w0 φ' w' p2 p4
    exact ⟨p7, .pan v', φ'', h'', ⟨u, rfl, m'' _ _ _ hm q⟩, R'', p3.trans e'', hn'', hR⟩


theorem pure_of_run {C : Cx} {f : Nat} {fn : Func} {c : Code} {args : List V} {r : V} (hf : C.P.funcs[f]? = some fn) (hb : fn.body = some c) (hn : enters C.P f = true)
    (hc : codeOk fn.ntmps c = true) (hl : args.length ≤ fn.ntmps) (ha : ∀ ρ, args.map (rnV ρ) = args) (hcr : ∀ ρ, rnV ρ r = r) (d n : Nat) (hr : Run C fn.ntmps 0 n (pureQ C fn d (fun v => v = r)) [.code c] (argsT args) []) : PureV C f args r := by
  refine ⟨hcr, ha, calls_of_wc hf hb hn hc hl ?_⟩
  have hsem := Run_sound n _ [.code c] (argsT args) [] (by simp [itOk, hc]) hr
  exact WC.mono hsem (pureQ_body (d := d) (K := fun v => v = r) fun v e => by subst e; exact ⟨rfl, rfl⟩)

theorem panFree_pure {C : Cx} (fn : Func) (d : Nat) (K : V → Prop) : PanFree (pureQ C fn d K) := fun v τ τ' h q => q

section
variable {C : Cx} {N n0 m : Nat} {Q : QT} {k : List It} {τ : Tau} {h : H}
theorem PureV.at_ {f : Nat} {args : List V} {r : V} (p : PureV C f args r) (H : H) : CallsV C f args H fun res h' => res = .ret r ∧ h' = H := by
  have := CallsV.lift p.calls H
  rw [p.ca] at this
  refine this.mono fun res h' ⟨r1, h1, ⟨e1, e2⟩, e3, e4⟩ => ?_
  subst e1; subst e2
  refine ⟨by rw [e3]; simp only [rnRes, p.cr], by rw [e4]; simp⟩
theorem CallThen.pure {f : Nat} {args : List V} {r : V} {d : Option Nat} (p : PureV C f args r) (m : Nat) (hr : Run C N n0 m Q k (upo d r τ) h) : CallThen C N n0 Q f args d k τ h :=
  CallThen.of m (p.at_ h) fun res h' ⟨e1, e2⟩ => by subst e1; subst e2; exact hr
theorem hide_len {h0 : H} {exc : List Nat} {h : H} : (hide h0 exc h).length = h.length := mask_len 0 h
theorem show_hide (n : Nat) (exc : List Nat) : ∀ (i : Nat) (h : H), unmask n exc i h (mask n exc i h) = h
  | _, [] => rfl
  | i, B :: h => by
    simp only [mask, unmask, show_hide n exc (i + 1) h]
    split <;> rfl
theorem DCall.pure {h0 : H} {exc : List Nat} {ops : Array Oper} {fuel : Nat} {listed : Array Bool} {f : Nat} {args : List V} {r : V} {d : Option Nat} {nw : List Nat} (p : PureV C f args r) (m : Nat) (td : TD) (hd : drawOk ops [] listed td = true)
    (hr : RunD C N n0 m Q k h0 exc ops fuel listed td (addN d nw) (upo d r τ) h) : DCall C N n0 Q h0 exc ops fuel listed k f args d nw τ h :=
  DCall.of m td hd (p.at_ _) fun res h' ⟨e1, e2⟩ => by
    subst e1; subst e2
    show RunD C N n0 m Q k h0 exc ops fuel listed td (addN d nw) (upo d r τ) (unmask h0.length exc 0 h (mask h0.length exc 0 h))
    rw [show_hide]; exact hr

theorem ex_succ (k : Nat) : (∃ n, some (k + 1) = some (n + 1)) = True := by simp
theorem bcase_if (p : Prop) [Decidable p] (x y : Prop) : bcase (decide p) x y = ((p → x) ∧ (¬ p → y)) := by
  by_cases h : p <;> simp [bcase, h]
theorem bcase_ifn (p : Prop) [Decidable p] (x y : Prop) : bcase (!decide p) x y = ((¬ p → x) ∧ (p → y)) := by
  by_cases h : p <;> simp [bcase, h]
theorem wrap_i64 {a : Int} (h1 : -9223372036854775808 ≤ a) (h2 : a ≤ 9223372036854775807) : IntKind.i64.wrap a = a := by
  simp only [IntKind.wrap, IntKind.signed, IntKind.bits, Bool.true_and, decide_eq_true_eq, ge_iff_le]
  split <;> omega
theorem tupP_one (d : Nat) (K : V → Prop) (h : H) (v : V) : tupP d K h [v] = K (frz 0 d h v) := rfl
theorem tupP_nil (d : Nat) (K : V → Prop) (h : H) : tupP d K h [] = K (frz 0 d h (.tup [])) := by simp [tupP]
theorem tupP_two (d : Nat) (K : V → Prop) (h : H) (a b : V) (r : List V) : tupP d K h (a :: b :: r) = ((a :: b :: r).all notTup = true ∧ K (frz 0 d h (.tup (a :: b :: r)))) := rfl
theorem pureQ_ret (fn : Func) (d : Nat) (K : V → Prop) : pureQ C fn d K .ret τ h = resW C h τ fn.results.toList (tupP d K h) := rfl
theorem pureQ_normal (fn : Func) (d : Nat) (K : V → Prop) : pureQ C fn d K .normal τ h = resW C h τ fn.results.toList (tupP d K h) := rfl
end
theorem frzs_s (n0 d : Nat) (h : H) (v : Value) : frz n0 d h (.s v) = .s v := by cases d <;> rfl
theorem frzs_f (n0 d : Nat) (h : H) (n els) : frz n0 d h (.f n els) = .f n els := by cases d <;> rfl
theorem frzs_z (n0 d : Nat) (h : H) : frz n0 d h .z = .z := by cases d <;> rfl
theorem frzs_pd (n0 d : Nat) (h : H) (cs) : frz n0 d h (.pd cs) = .pd cs := by cases d <;> rfl
set_option linter.all false in
noncomputable def WB3 := And.intro (And.intro (And.intro and_self @implies_true.{0}) (And.intro @forall_const.{0} @List.getElem?_map.{0,0}))  <| And.intro (And.intro (And.intro ex_succ @bcase_if) (And.intro @bcase_ifn tupP_one)) (And.intro (And.intro tupP_nil tupP_two) (And.intro (And.intro @pureQ_ret @pureQ_normal) (And.intro (And.intro frzs_s frzs_f) (And.intro frzs_z frzs_pd))))
end Go.W
