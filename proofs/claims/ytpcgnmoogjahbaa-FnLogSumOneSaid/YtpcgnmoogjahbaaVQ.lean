/- A layer for walking through code on abstract values and an abstract heap: its definitions and their soundness; no condition. -/
import Derived.Test.YtpcgnmoogjahbaaVP
import Derived.Still
set_option linter.unusedVariables false
set_option linter.unusedSimpArgs false
namespace Go.VL
open Go Go.RowKit

section
variable {P : Program} {N : Nat} {Q : QT} {τ : Tau} {h : H} {k : List It}

/-- An operation that leaves the world as it is. -/
def pureW (P : Program) (τ : Tau) (h : H) (o : Oper) (K : V → H → Prop) : Prop :=
  match o.op with
  | .call c => match c.callee with
    | .builtin b => builtinW P τ h b c.args.toList c.argTypes.toList K
    | _ => False
  | .load t x => opW P τ h (.load t x) K
  | op => if isA op = true then opW P τ h op K else False

theorem pureW_sound {o : Oper} {a : Act} {w : World} {B : Nat} {w0 : World} {φ : Phi} {K : V → H → Prop} (hok : opOk N o = true) (R : Rel B w0 φ h w) (T : RelT φ τ a) (hw : pureW P τ h o K) :
    DidV P o a w φ fun x => K x h := by
  have hop := hok
  simp only [opOk, Bool.and_eq_true] at hop
  have hop2 : o.op.operands.all opdOk = true := by have := hop.2; rw [← Array.all_toList] at this ⊢; exact this
  unfold pureW at hw
  split at hw
  · rename_i c ho
    split at hw
    · rename_i b hc
      exact (builtinW_sound ho hc (call_args ho hc hok) T hw).v w
    · exact hw.elim
  · rename_i t x ho
    rw [ho] at hop2
    exact sem_load ho R T (by simpa [Op.operands] using hop2) hw
  · split at hw
    · rename_i hA
      exact (opW_any hA hop2 T hw).v w
    · exact hw.elim

/-- A region all of whose operations leave the world as it is, in the order of the text. -/
def RunP (P : Program) (N m : Nat) (Q : QT) (k : List It) (all : List Oper) : List Oper → Tau → H → Prop
  | [], τ, h => Run P N m Q k τ h
  | o :: os, τ, h => match o.guard with
    | none => pureW P τ h o fun v _ => RunP P N m Q k all os (upo o.dst v τ) h
    | some (j, want) => match gV all τ j with
      | some b => (b = want → pureW P (gSet all j want τ) h o fun v _ => RunP P N m Q k all os (upo o.dst v (gSet all j want τ)) h) ∧ (¬ b = want → RunP P N m Q k all os (upo o.dst .any (gSet all j (!want) τ)) h)
      | none => False

theorem RunP_sound {m : Nat} {all : List Oper} {B : Nat} {w0 : World} {φ : Phi} {w : World} (hk : k.all (itOk N) = true) (hall : all.all (opOk N) = true) (R : Rel B w0 φ h w) (ds : List Deferred) :
    ∀ (os : List Oper) (τ : Tau) (a : Act), os.all (opOk N) = true → RelT φ τ a → a.tmps.size = N → a.defers = ds → RunP P N m Q k all os τ h →
      wpStill P all.toArray w (fun a' => Post N B w0 φ ds (SemK P N Q k) .normal a' w) os a
  | [], τ, a, _, T, hN, hd, hr => ⟨.normal, τ, h, φ, rfl, R, Ext.refl φ, T, hN, hd, Run_sound m k τ h hk hr⟩
  | o :: os, τ, a, ho, T, hN, hd, hr => by
    simp only [List.all_cons, Bool.and_eq_true] at ho
    have hdst := ho.1
    simp only [opOk, Bool.and_eq_true] at hdst
    have step : pureW P τ h o (fun v _ => RunP P N m Q k all os (upo o.dst v τ) h) → o.still P a w (wpStill P all.toArray w (fun a' => Post N B w0 φ ds (SemK P N Q k) .normal a' w) os) := by
      intro hp
      obtain ⟨x, v, h1, h2, h3⟩ := pureW_sound ho.1 R T hp
      unfold Oper.still
      rw [h2]
      obtain ⟨q1, q2, q3⟩ := put_rel (o := o) T hN hdst.1 (.inl h3)
      exact ⟨rfl, RunP_sound hk hall R ds os _ _ ho.2 q1 q2 (q3.trans hd) h1⟩
    unfold RunP at hr
    unfold wpStill
    split at hr
    · rename_i hg
      rw [if_pos (by simp [Region.wanted, hg])]
      exact step hr
    · rename_i j want hg
      split at hr
      · rename_i b hb
        have hy := guard_yields T hN hall hb
        by_cases e : b = want
        · rw [if_pos (by simp [Region.wanted, hg, hy, e])]
          exact step (by have q := hr.1 e; rw [gSet_want hb e] at q; exact q)
        · rw [if_neg (by simp [Region.wanted, hg, hy, e])]
          obtain ⟨q1, q2, q3⟩ := put_rel (o := o) (v := undef) (x := .any) T hN hdst.1 (.inr rfl)
          exact RunP_sound hk hall R ds os _ _ ho.2 q1 q2 (q3.trans hd) (by have q := hr.2 e; rw [gSet_not hb e] at q; exact q)
      · exact hr.elim

theorem DrawThen.pure {id : Nat} {ops : Array Oper} (m : Nat) (hm : P.follows .mixedOrders = true) (hB : Region.lexB .any ops = true)
    (hr : RunP P N m Q k ops.toList ops.toList τ h) : DrawThen P N Q id ops k τ h := by
  intro hops hk B w0 φ a w R T hN
  refine wp_region_still hm hB ?_
  have R' : Rel B w0 φ h { w with drawn := w.drawn + 1 } := R.grow ⟨rfl, rfl, rfl, Nat.le_refl _, fun _ _ _ => rfl⟩
  have hall : ops.toList.all (opOk N) = true := by rw [Array.all_toList]; exact hops
  have := RunP_sound hk hall R' a.defers ops.toList τ a hall T hN rfl hr
  rwa [Array.toArray_toList] at this

end
end Go.VL
