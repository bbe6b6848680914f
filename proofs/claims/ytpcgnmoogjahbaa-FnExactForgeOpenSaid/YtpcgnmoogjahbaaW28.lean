/- A layer for walking through code on abstract values, told apart by who owns the memory: its definitions and their soundness; no condition. -/
import Derived.Test.YtpcgnmoogjahbaaW27
set_option linter.unusedVariables false
set_option linter.unusedSimpArgs false
namespace Go.W
open Go Go.RowKit
section
variable {C : Cx} {N n0 m : Nat} {Q : QT} {k : List It} {τ : Tau} {h : H}
/-- A loop that's left in its first round. -/
def loopZ (C : Cx) (N n0 m : Nat) (Q : QT) (k : List It) : QT
  | .normal, _, _ => False
  | .exit id, τ, h => exitK (Run C N n0 m Q) Q id τ h (popTo id k)
  | .ret, τ, h => Q .ret τ h
  | .pan v, τ, h => Q (.pan v) τ h
theorem loopZ_exit (id : Nat) : loopZ C N n0 m Q k (.exit id) τ h = exitK (Run C N n0 m Q) Q id τ h (popTo id k) := rfl
theorem loopZ_ret : loopZ C N n0 m Q k .ret τ h = Q .ret τ h := rfl
theorem loopZ_pan (v : V) : loopZ C N n0 m Q k (.pan v) τ h = Q (.pan v) τ h := rfl
theorem panFree_loopZ (hQ : PanFree Q) : PanFree (loopZ C N n0 m Q k) := fun v τ τ' h q => hQ v τ τ' h q
theorem LoopThen.zero {body : Code} (m n : Nat) (hr : Run C N n0 n (loopZ C N n0 m Q k) [.code body] τ h) : LoopThen C N n0 Q body k τ h := by
  intro hb hk
  refine WC.loop (fun τ' h' => τ' = τ ∧ h' = h) (fun _ _ => 0) (Goes.refl ⟨rfl, rfl⟩) fun τ' h' hI => ?_
  obtain ⟨rfl, rfl⟩ := hI
  have := Run_sound n _ [.code body] τ' h' (by simp [itOk, hb]) hr
  refine WC.mono this fun x τ' h' q => ?_
  cases x with
  | normal => exact q.elim
  | exit id =>
    refine semK_exit ?_
    simp only [SemK, loopZ] at q
    cases hp : popTo id k with
    | none => rw [hp] at q; exact q
    | some k' => rw [hp] at q; exact Run_sound m Q k' τ' h' (popTo_ok hp hk) q
  | ret => exact semK_ret q
  | pan v => exact semK_pan q
end
set_option linter.all false in
noncomputable def WB6 := And.intro (And.intro @loopZ_exit @loopZ_ret) @loopZ_pan
end Go.W
