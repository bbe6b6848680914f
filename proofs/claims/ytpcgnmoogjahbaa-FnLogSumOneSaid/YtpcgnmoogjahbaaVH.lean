/- A layer for walking through code on abstract values and an abstract heap: its definitions and their soundness; no condition. -/
import Derived.Test.YtpcgnmoogjahbaaVG
import Derived.Laws.Slices
import Derived.Laws.Strings3
set_option linter.unusedVariables false
set_option linter.unusedSimpArgs false
namespace Go.VL
open Go Go.RowKit

section
variable {P : Program} {o : Oper} {a : Act} {w : World} {B : Nat} {w0 : World} {φ : Phi} {K : V → H → Prop} {h : H} {τ : Tau}

theorem underlying_of_tElem {t e : TypeId} (ht : tElem P t = some e) : P.underlying t = some (.slice e) := by
  unfold tElem at ht
  split at ht
  · rename_i e' hu; rw [hu]; rw [Option.some.inj ht]
  · cases ht

theorem run_elem {t e : TypeId} (ht : tElem P t = some e) (w : World) : (underlying t).run P w = .ok (.slice e) w := run_underlying (underlying_of_tElem ht) w

theorem tK_slice {t e : TypeId} (h : tK P t = .slice e) : P.underlying t = some (.slice e) := by
  unfold tK at h; split at h <;> first | (cases h; done) | (rename_i hu; cases h; exact hu)
theorem tK_string {t : TypeId} (h : tK P t = .string) : P.underlying t = some .string := by
  unfold tK at h; split at h <;> first | (cases h; done) | (rename_i hu; exact hu)
theorem tK_bool {t : TypeId} (h : tK P t = .bool) : P.underlying t = some .bool := by
  unfold tK at h; split at h <;> first | (cases h; done) | (rename_i hu; exact hu)
theorem tK_int {t : TypeId} {k : IntKind} (h : tK P t = .int k) : P.underlying t = some (.int k) := by
  unfold tK at h; split at h <;> first | (cases h; done) | (rename_i hu; cases h; exact hu)

theorem sem_nilCheck {x : Operand} (ho : o.op = .nilCheck x) (T : RelT φ τ a) (hx : opdOk x = true) (hw : opW P τ h (.nilCheck x) K) : DidA P o a φ (fun x => K x h) := by
  unfold opW at hw
  simp only at hw
  have ex := ev_rel T x hx
  split at hw
  · rename_i b off e
    rw [e] at ex
    obtain ⟨blk, base, hp, hv⟩ := ptr_rel ex
    exact did_any hw (v := a.eval x) (fun w => by simp [execOp, ho, hv]) (by rw [hv] at ex ⊢; exact ex)
  · rename_i f cs e
    rw [e] at ex
    have ex' := ex
    simp only [RelV, RelQ, RelC, conc] at ex
    cases hp : places φ cs with
    | none => rw [hp] at ex; cases ex
    | some l => rw [hp] at ex; have := Option.some.inj ex; exact did_any hw (v := a.eval x) (fun w => by simp [execOp, ho, ← this]) ex'
  · rename_i b off len cap e
    rw [e] at ex
    obtain ⟨blk, base, hp, hv⟩ := sl_rel ex
    exact did_any hw (v := a.eval x) (fun w => by simp [execOp, ho, hv]) (by rw [hv] at ex ⊢; exact ex)
  · exact hw.elim

theorem beq_toList (a b : ByteArray) : (a.toList == b.toList) = decide (a = b) := by
  rw [Bool.eq_iff_iff]
  simp only [beq_iff_eq, decide_eq_true_eq]
  constructor
  · intro h
    rw [ByteArray.toList_eq, ByteArray.toList_eq] at h
    exact ByteArray.ext (Array.toList_inj.1 h)
  · rintro rfl; rfl

theorem binV_run {op : BinOp} {x y v : Value} (hv : binV op x y = some v) {t : TypeId} (hb : bOk P t x) (ox oy : Operand) (w : World) :
    (do eqGuard op t ox oy x y; binOp op t x y : Sem Value).run P w = .ok v w ∧ one v = true := by
  unfold binV at hv
  split at hv
  · -- two integers
    rename_i k a k' b
    cases op <;> simp only at hv <;> first
      | (cases hv; done)
      | (split at hv
         · rename_i hc
           obtain rfl := Option.some.inj hv
           refine ⟨?_, rfl⟩
           first
             | (subst hc; simp [go_sem, binOp, Op.intArith, Op.intCmp]; done)
             | (obtain ⟨rfl, hc⟩ := hc; simp [go_sem, binOp, Op.intDiv, hc]; done)
             | (simp only [eqGuard_at_int, binOp_shr, shift_shr _ _ _ _ hc.1 hc.2, Sem.run_bind, Sem.run_pure, Result.andThen_ok])
         · cases hv)
  · -- two texts
    rename_i a b
    cases op <;> simp only at hv <;> first
      | (cases hv; done)
      | (obtain rfl := Option.some.inj hv
         refine ⟨?_, rfl⟩
         simp [go_sem, eqGuard_at_string, binOp, Op.stringOp, beq_toList]
         done)
      | (split at hv
         · rename_i hc
           obtain rfl := Option.some.inj hv
           refine ⟨?_, rfl⟩
           have : ((a.size : Int) + (b.size : Int)) ≤ 9223372036854775807 := by omega
           simp [go_sem, eqGuard_at_string, binOp, Op.stringOp, this]
         · cases hv)
  · rename_i a b
    have hu := tK_bool hb
    have he : (Op.equal t (.bool a) (.bool b)).run P w = .ok (a == b) w := by
      unfold Op.equal; rw [show Op.maxDepth = 9999 + 1 from rfl]; unfold Op.equalIn; simp only [Sem.run_bind, run_underlying hu, Result.andThen_ok, Sem.run_pure]
    cases op <;> simp only at hv <;> first
      | (cases hv; done)
      | (obtain rfl := Option.some.inj hv
         refine ⟨?_, rfl⟩
         simp [eqGuard_at_bool, binOp, he, bne]
         done)
  · cases hv

end
end Go.VL
