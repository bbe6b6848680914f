/- A layer for walking through code on abstract values and an abstract heap: its definitions and their soundness; no condition. -/
import Derived.Test.YtpcgnmoogjahbaaVO
set_option linter.unusedVariables false
set_option linter.unusedSimpArgs false
namespace Go.VL
open Go Go.RowKit

section
variable {P : Program} {N : Nat} {Q : QT} {τ : Tau} {h : H} {k : List It}

/-- What a round of a loop must come to. -/
def loopQ (P : Program) (N m : Nat) (Q : QT) (k : List It) (I : Tau → H → Prop) (μ : Tau → H → Nat) (μ0 : Nat) : QT
  | .normal, τ, h => I τ h ∧ μ τ h < μ0
  | .exit id, τ, h => match popTo id k with
    | some k' => Run P N m Q k' τ h
    | none => Q (.exit id) τ h
  | .ret, τ, h => Q .ret τ h
  | .pan v, τ, h => Q (.pan v) τ h

theorem LoopThen.of {body : Code} (I : Tau → H → Prop) (μ : Tau → H → Nat) (m n : Nat) (h0 : I τ h)
    (hr : ∀ τ h, I τ h → Run P N n (loopQ P N m Q k I μ (μ τ h)) [.code body] τ h) : LoopThen P N Q body k τ h := by
  intro hb hk
  refine WC.loop I μ h0 fun τ h hI => ?_
  have := Run_sound n [.code body] τ h (by simp [itOk, hb]) (hr τ h hI)
  refine WC.mono this fun x τ' h' q => ?_
  cases x with
  | normal => exact q
  | exit id =>
    refine semK_exit ?_
    simp only [SemK, loopQ] at q
    cases hp : popTo id k with
    | none => rw [hp] at q; exact q
    | some k' => rw [hp] at q; exact Run_sound m k' τ' h' (popTo_ok hp hk) q
  | ret => exact semK_ret q
  | pan v => exact semK_pan q

/-- What a call must come to. -/
def callQ (P : Program) (N m : Nat) (Q : QT) (k : List It) (d : Option Nat) (τ : Tau) : Res → H → Prop
  | .ret v, h => Run P N m Q k (upo d v τ) h
  | .pan v, h => Q (.pan v) τ h

theorem CallThen.of {f : Nat} {args : List V} {d : Option Nat} {R : Res → H → Prop} (m : Nat) (hc : CallsV P f args h R)
    (hr : ∀ r h', R r h' → callQ P N m Q k d τ r h') : CallThen P N Q f args d k τ h := by
  intro hk
  refine CallsV.mono hc fun r h' q => ?_
  have := hr r h' q
  cases r with
  | ret v => exact Run_sound m k _ _ hk this
  | pan v => exact semK_pan this

theorem AppThen.of {s x : V} {t u : TypeId} {d : Option Nat} {R : V → H → Prop} (m : Nat) (hc : AppV P h s x t u R) (hr : ∀ v h', R v h' → Run P N m Q k (upo d v τ) h') :
    AppThen P N Q s x t u d k τ h := by
  intro hk B w0 φ w sv xv ty R1 r1 r2
  obtain ⟨v, w', φ', r, h', q1, q2, q3, q4, q5⟩ := hc B w0 φ w sv xv ty R1 r1 r2
  exact ⟨v, w', φ', r, h', q1, q2, q3, q4, Run_sound m k _ _ hk (hr _ _ q5)⟩
theorem CopyThen.of {s x : V} {t u : TypeId} {d : Option Nat} {R : V → H → Prop} (m : Nat) (hc : CopyV P h s x t u R) (hr : ∀ v h', R v h' → Run P N m Q k (upo d v τ) h') :
    CopyThen P N Q s x t u d k τ h := by
  intro hk B w0 φ w sv xv ty R1 r1 r2
  obtain ⟨v, w', φ', r, h', q1, q2, q3, q4, q5⟩ := hc B w0 φ w sv xv ty R1 r1 r2
  exact ⟨v, w', φ', r, h', q1, q2, q3, q4, Run_sound m k _ _ hk (hr _ _ q5)⟩
theorem ClearThen.of {s : V} {t : TypeId} {d : Option Nat} {R : V → H → Prop} (m : Nat) (hc : ClearV P h s t R) (hr : ∀ v h', R v h' → Run P N m Q k (upo d v τ) h') :
    ClearThen P N Q s t d k τ h := by
  intro hk B w0 φ w sv ty R1 r1
  obtain ⟨v, w', φ', r, h', q1, q2, q3, q4, q5⟩ := hc B w0 φ w sv ty R1 r1
  exact ⟨v, w', φ', r, h', q1, q2, q3, q4, Run_sound m k _ _ hk (hr _ _ q5)⟩
theorem ConvThen.of {src dst : TypeId} {x : V} {d : Option Nat} {R : V → H → Prop} (m : Nat) (hc : ConvV P h src dst x R) (hr : ∀ v h', R v h' → Run P N m Q k (upo d v τ) h') :
    ConvThen P N Q src dst x d k τ h := by
  intro hk B w0 φ w xv R1 r1
  obtain ⟨v, w', φ', r, h', q1, q2, q3, q4, q5⟩ := hc B w0 φ w xv R1 r1
  exact ⟨v, w', φ', r, h', q1, q2, q3, q4, Run_sound m k _ _ hk (hr _ _ q5)⟩
theorem EqThen.of {op : BinOp} {t : TypeId} {x y : V} {d : Option Nat} {R : V → H → Prop} (m : Nat) (hc : EqV P h op t x y R) (hr : ∀ v h', R v h' → Run P N m Q k (upo d v τ) h') :
    EqThen P N Q op t x y d k τ h := by
  intro hk B w0 φ w xv yv ox oy R1 r1 r2
  obtain ⟨v, w', φ', r, h', q1, q2, q3, q4, q5⟩ := hc B w0 φ w xv yv ox oy R1 r1 r2
  exact ⟨v, w', φ', r, h', q1, q2, q3, q4, Run_sound m k _ _ hk (hr _ _ q5)⟩

end
end Go.VL
