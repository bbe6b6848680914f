/- A layer for walking through code on abstract values, told apart by who owns the memory: its definitions and their soundness; no condition. -/
import Derived.Test.YtpcgnmoogjahbaaW11
set_option linter.unusedVariables false
set_option linter.unusedSimpArgs false
namespace Go.W
open Go Go.RowKit

/-! ### Builtins that make no memory -/
section
variable (K : V → H → Prop) (h : H)
def lenK : TK → V → Prop
  | .string, .s (.string s) => s.size ≤ LIM → K (.s (.int .i64 s.size)) h
  | .slice _, .f _ els => els.length ≤ LIM → K (.s (.int .i64 els.length)) h
  | .slice _, .sl _ _ len _ => K (.s (.int .i64 len)) h
  | .slice _, .z => K (.s (.int .i64 0)) h
  | _, _ => False
def capK : TK → V → Prop
  | .slice _, .f _ els => ∀ c : Nat, els.length ≤ c → K (.s (.int .i64 c)) h
  | .slice _, .sl _ _ _ cap => K (.s (.int .i64 cap)) h
  | .slice _, .z => K (.s (.int .i64 0)) h
  | _, _ => False
def minK : V → V → Prop
  | .s (.int k a), .s (.int _ b) => K (.s (.int k (if b < a then b else a))) h
  | _, _ => False
def maxK : V → V → Prop
  | .s (.int k a), .s (.int _ b) => K (.s (.int k (if a < b then b else a))) h
  | _, _ => False
end
def builtinW (C : Cx) (K : V → H → Prop) (h : H) (b : Builtin) (xs : List V) (ts : List TypeId) : Prop :=
  match b, xs, ts with
  | .len, [x], [t] => lenK K h (tK C.P t) x
  | .cap, [x], [t] => capK K h (tK C.P t) x
  | .min, [x, y], _ => minK K h x y
  | .max, [x, y], _ => maxK K h x y
  | _, _, _ => False

section
variable {C : Cx} {o : Oper} {a : Act} {w : World} {S : Nat → Prop} {w0 : World} {φ : Phi} {K : V → H → Prop} {h : H} {τ : Tau} {F : Nat → Fp}

theorem exec_builtin {P : Program} {c : Call} {b : Builtin} (ho : o.op = .call c) (hc : c.callee = .builtin b) :
    ∃ cs, ∀ w, (execOp a.eval o).run P w = (builtin b c.argTypes o.type cs (c.args.map a.eval)).run P w := by
  simp only [execOp, ho, resolve, hc, Sem.run_bind, Sem.run_pure, Result.andThen_ok, invoke]
  exact ⟨_, fun _ => rfl⟩
theorem arr2 {α : Type} {x : Array α} {p q : α} (h : x.toList = [p, q]) : x = #[p, q] := by
  apply Array.ext'; simpa using h
theorem arr1 {α : Type} {x : Array α} {p : α} (h : x.toList = [p]) : x = #[p] := by
  apply Array.ext'; simpa using h
theorem evs_one {xs : List Operand} {x : V} (h : evs C τ xs = [x]) : ∃ y, xs = [y] ∧ ev C τ y = x := by
  cases xs with
  | nil => cases h
  | cons y ys =>
    cases ys with
    | nil => simp only [evs, List.cons.injEq, and_true] at h; exact ⟨y, rfl, h⟩
    | cons z zs => simp [evs] at h
theorem evs_two {xs : List Operand} {x y : V} (h : evs C τ xs = [x, y]) : ∃ p q, xs = [p, q] ∧ ev C τ p = x ∧ ev C τ q = y := by
  cases xs with
  | nil => cases h
  | cons p ps =>
    cases ps with
    | nil => simp [evs] at h
    | cons q qs =>
      cases qs with
      | nil => simp only [evs, List.cons.injEq, and_true] at h; exact ⟨p, q, rfl, h.1, h.2⟩
      | cons z zs => simp [evs] at h

theorem builtinW_sound {c : Call} {b : Builtin} (ho : o.op = .call c) (hc : c.callee = .builtin b) (hok : c.args.toList.all opdOk = true) (G : RelG C φ.z) (T : RelT φ τ a)
    (hw : builtinW C K h b (evs C τ c.args.toList) c.argTypes.toList) : DidA C.P o a φ (fun x => K x h) := by
  unfold builtinW at hw
  split at hw
  · rename_i x t e1 e2
    obtain ⟨y, e3, rfl⟩ := evs_one e1
    have ha := arr1 e3
    have ht := arr1 e2
    rw [e3] at hok
    simp only [List.all_cons, List.all_nil, Bool.and_true] at hok
    have ex := ev_rel G T y hok
    obtain ⟨cs, hcs⟩ := exec_builtin (P := C.P) (a := a) ho hc
    unfold lenK at hw
    split at hw
    · rename_i s f1 f2
      rw [f2] at ex; obtain ⟨ex, hone⟩ := s_rel ex
      simp only [one, decide_eq_true_eq] at hone
      refine did_any (hw hone) (v := .int .i64 s.size) (fun w => ?_) (mk_s rfl)
      rw [hcs, ha, ht]
      simp [builtin, Builtin.len_, run_underlying (tK_string f1), ex, goInt]
    · rename_i e n els f1 f2
      rw [f2] at ex
      rcases f_rel ex with ⟨rfl, q, hv⟩ | ⟨k, off, cap, hv, h1, h2, h3⟩
      · refine did_any (hw (by simp)) (v := .int .i64 0) (fun w => ?_) (mk_s rfl)
        rw [hcs, ha, ht]
        simp [builtin, Builtin.len_, run_underlying (tK_slice f1), hv, goInt]
      · refine did_any (hw h2) (v := .int .i64 els.length) (fun w => ?_) (mk_s rfl)
        rw [hcs, ha, ht]
        simp [builtin, Builtin.len_, run_underlying (tK_slice f1), hv, goInt]
    · rename_i e b' off len cap f1 f2
      rw [f2] at ex
      obtain ⟨p, n, hp, hv⟩ := sl_rel ex
      refine did_any hw (v := .int .i64 len) (fun w => ?_) (mk_s rfl)
      rw [hcs, ha, ht]
      cases p with
      | none => obtain ⟨⟨q, hv⟩, rfl, _⟩ := hv; simp [builtin, Builtin.len_, run_underlying (tK_slice f1), hv, goInt]
      | some k => simp only at hv; simp [builtin, Builtin.len_, run_underlying (tK_slice f1), hv, goInt]
    · rename_i e f1 f2
      rw [f2] at ex
      obtain ⟨p, hv⟩ := z_rel ex
      refine did_any hw (v := .int .i64 0) (fun w => ?_) (mk_s rfl)
      rw [hcs, ha, ht]
      simp [builtin, Builtin.len_, run_underlying (tK_slice f1), hv, goInt]
    · exact hw.elim
  · rename_i x t e1 e2
    obtain ⟨y, e3, rfl⟩ := evs_one e1
    have ha := arr1 e3
    have ht := arr1 e2
    rw [e3] at hok
    simp only [List.all_cons, List.all_nil, Bool.and_true] at hok
    have ex := ev_rel G T y hok
    obtain ⟨cs, hcs⟩ := exec_builtin (P := C.P) (a := a) ho hc
    unfold capK at hw
    split at hw
    · rename_i e n els f1 f2
      rw [f2] at ex
      rcases f_rel ex with ⟨rfl, q, hv⟩ | ⟨k, off, cap, hv, h1, h2, h3⟩
      · refine did_any (hw 0 (by simp)) (v := .int .i64 0) (fun w => ?_) (mk_s rfl)
        rw [hcs, ha, ht]
        simp [builtin, Builtin.cap_, run_underlying (tK_slice f1), hv, goInt]
      · refine did_any (hw cap h1) (v := .int .i64 cap) (fun w => ?_) (mk_s rfl)
        rw [hcs, ha, ht]
        simp [builtin, Builtin.cap_, run_underlying (tK_slice f1), hv, goInt]
    · rename_i e b' off len cap f1 f2
      rw [f2] at ex
      obtain ⟨p, n, hp, hv⟩ := sl_rel ex
      refine did_any hw (v := .int .i64 cap) (fun w => ?_) (mk_s rfl)
      rw [hcs, ha, ht]
      cases p with
      | none => obtain ⟨⟨q, hv⟩, _, rfl, _⟩ := hv; simp [builtin, Builtin.cap_, run_underlying (tK_slice f1), hv, goInt]
      | some k => simp only at hv; simp [builtin, Builtin.cap_, run_underlying (tK_slice f1), hv, goInt]
    · rename_i e f1 f2
      rw [f2] at ex
      obtain ⟨p, hv⟩ := z_rel ex
      refine did_any hw (v := .int .i64 0) (fun w => ?_) (mk_s rfl)
      rw [hcs, ha, ht]
      simp [builtin, Builtin.cap_, run_underlying (tK_slice f1), hv, goInt]
    · exact hw.elim
  · rename_i x y e1
    obtain ⟨p, q, e3, rfl, rfl⟩ := evs_two e1
    have ha := arr2 e3
    rw [e3] at hok
    simp only [List.all_cons, List.all_nil, Bool.and_true, Bool.and_eq_true] at hok
    have ex := ev_rel G T p hok.1
    have ey := ev_rel G T q hok.2
    obtain ⟨cs, hcs⟩ := exec_builtin (P := C.P) (a := a) ho hc
    unfold minK at hw
    split at hw
    · rename_i k p k' q f1 f2
      rw [f1] at ex; obtain ⟨ex, -⟩ := s_rel ex
      rw [f2] at ey; obtain ⟨ey, -⟩ := s_rel ey
      refine did_any hw (v := .int k (if q < p then q else p)) (fun w => ?_) (mk_s rfl)
      rw [hcs, ha]
      simp [builtin, Builtin.min_, ex, ey, Builtin.min2]
    · exact hw.elim
  · rename_i x y e1
    obtain ⟨p, q, e3, rfl, rfl⟩ := evs_two e1
    have ha := arr2 e3
    rw [e3] at hok
    simp only [List.all_cons, List.all_nil, Bool.and_true, Bool.and_eq_true] at hok
    have ex := ev_rel G T p hok.1
    have ey := ev_rel G T q hok.2
    obtain ⟨cs, hcs⟩ := exec_builtin (P := C.P) (a := a) ho hc
    unfold maxK at hw
    split at hw
    · rename_i k p k' q f1 f2
      rw [f1] at ex; obtain ⟨ex, -⟩ := s_rel ex
      rw [f2] at ey; obtain ⟨ey, -⟩ := s_rel ey
      refine did_any hw (v := .int k (if p < q then q else p)) (fun w => ?_) (mk_s rfl)
      rw [hcs, ha]
      simp [builtin, Builtin.max_, ex, ey, Builtin.max2]
    · exact hw.elim
  · exact hw.elim

/-! ### All of them -/
/-- The operations that do not look at the world. -/
def isA : Op → Bool
  | .move _ | .assign _ | .pick .. | .build .. | .nilCheck _ | .binOp .. | .unOp .. | .makeInterface .. | .makeFunc .. | .slice .. | .fieldAddr .. | .field .. | .indexAddr .. | .index .. | .extract .. => true
  | _ => false

theorem opW_any (hA : isA o.op = true) (hok : o.op.operands.all opdOk = true) (R : Rel S w0 φ h w) (G : RelG C φ.z) (T : RelT φ τ a) (hw : opW C τ h o.op K) : DidA C.P o a φ fun x => K x h := by
  cases hop : o.op <;> rw [hop] at hw hok hA <;> simp only [Op.operands, Array.all_push, List.all_toArray, Array.all_append, List.all_cons, List.all_nil, Bool.and_true, Bool.and_eq_true] at hok <;> simp only [opW] at hw
  case move x => exact sem_move (.inl hop) G T hok hw
  case assign x => exact sem_move (.inr hop) G T hok hw
  case pick c x y => exact sem_pick hop G T hok.1 hok.2.1 hok.2.2 hw
  case build t ps => exact sem_build hop G T hok hw
  case nilCheck x => exact sem_nilCheck hop G T hok hw
  case binOp op t x y u => exact sem_binOp hop G T hok.1 hok.2 hw
  case unOp op t x => exact sem_unOp hop G T hok hw
  case makeInterface t x => exact sem_makeInterface hop G T hok hw
  case makeFunc fn first caps => exact sem_makeFunc hop G T (by have := hok.2; rw [← Array.all_toList] at this; exact this) hw
  case slice t x lo hi mx =>
    refine sem_slice hop R G T ?_ ?_ ?_ ?_ hw
    · exact hok.1.1.1
    · rintro y rfl; simpa using hok.1.1.2
    · rintro y rfl; simpa using hok.1.2
    · rintro y rfl; simpa using hok.2
  case fieldAddr s x f => exact sem_fieldAddr hop G T hok hw
  case field s x f => exact sem_field hop G T hok hw
  case indexAddr t x i => exact sem_indexAddr hop R G T hok.1 hok.2 hw
  case index t x i => exact sem_index hop G T hok.1 hok.2 hw
  case extract x i => exact sem_extract hop G T hok hw
  all_goals cases hA

theorem opW_sound (hok : o.op.operands.all opdOk = true) (R : Rel S w0 φ h w) (G : RelG C φ.z) (T : RelT φ τ a) (hw : opW C τ h o.op K) : Did C.P o a w S w0 φ h.length K := by
  by_cases hA : isA o.op = true
  · exact (opW_any hA hok R G T hw).did R
  cases hop : o.op <;> rw [hop] at hw hok hA <;> simp only [Op.operands, Array.all_push, List.all_toArray, Array.all_append, List.all_cons, List.all_nil, Bool.and_true, Bool.and_eq_true] at hok
  case alloc e => exact sem_alloc hop R hw
  case box e x => exact sem_box hop R G T hok hw
  case buildSlice t n ps => exact sem_buildSlice hop R G T hok hw
  case load t x => exact sem_load hop R G T hok hw
  case store t p x => exact sem_store hop R G T hok.1 hok.2 hw
  case makeSlice t l c => exact sem_makeSlice hop R G T hok.1 hok.2 hw
  case convert s t x =>
    obtain ⟨x', v, h1, h2, h3⟩ := sem_convert hop R G T hok hw
    exact did_val R h1 h2 h3
  all_goals first
    | exact absurd rfl hA
    | (simp only [opW] at hw; done)

end
end Go.W
