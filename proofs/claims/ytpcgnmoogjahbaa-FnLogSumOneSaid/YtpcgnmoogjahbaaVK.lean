/- A layer for walking through code on abstract values and an abstract heap: its definitions and their soundness; no condition. -/
import Derived.Test.YtpcgnmoogjahbaaVJ
set_option linter.unusedVariables false
set_option linter.unusedSimpArgs false
namespace Go.VL
open Go Go.RowKit

section
variable {P : Program} {o : Oper} {a : Act} {w : World} {B : Nat} {w0 : World} {φ : Phi} {K : V → H → Prop} {h : H} {τ : Tau}

theorem opt_int {x : Option Operand} {l : Int} (T : RelT φ τ a) (hx : ∀ y, x = some y → opdOk y = true) (hv : x.map (intOfV ∘ ev τ) = some (some l)) : ∃ y k, x = some y ∧ a.eval y = .int k l := by
  cases x with
  | none => cases hv
  | some y =>
    simp only [Option.map_some, Function.comp, Option.some.injEq] at hv
    have ey := ev_rel T y (hx y rfl)
    unfold intOfV at hv
    split at hv
    · rename_i k n e
      obtain rfl := Option.some.inj hv
      rw [e] at ey
      exact ⟨y, k, rfl, (s_rel ey).1⟩
    · cases hv
theorem opt_none {x : Option Operand} (hv : x.map (intOfV ∘ ev τ) = none) : x = none := by
  cases x with
  | none => rfl
  | some y => cases hv

theorem cut_addr {blk base off c l n : Nat} : (if c = l then (some (⟨blk, base + off, none⟩ : Addr)) else (some (⟨blk, base + off, none⟩ : Addr)).map (·.add (l * n))) =
    some ⟨blk, base + (if c = l then off else off + l * n), none⟩ := by
  split
  · rfl
  · simp [addr_add, Nat.add_assoc]

theorem sem_slice {t : TypeId} {x : Operand} {lo hi mx : Option Operand} (ho : o.op = .slice t x lo hi mx) (T : RelT φ τ a) (hx : opdOk x = true)
    (hlo : ∀ y, lo = some y → opdOk y = true) (hhi : ∀ y, hi = some y → opdOk y = true) (hmx : ∀ y, mx = some y → opdOk y = true)
    (hw : opW P τ h (.slice t x lo hi mx) K) : DidA P o a φ (fun x => K x h) := by
  unfold opW at hw
  simp only at hw
  have ex := ev_rel T x hx
  split at hw
  · rename_i s e1 e2
    rw [e1] at ex
    obtain ⟨ex, -⟩ := s_rel ex
    have hu := tK_string e2
    split at hw
    · rename_i f1 f2
      obtain rfl := opt_none f1
      obtain rfl := opt_none f2
      refine did_any hw (v := .string s) (fun w => ?_) (mk_s rfl)
      simp [execOp, ho, ex, Instr.sliceAt, run_underlying hu, Instr.slice, Instr.sliceBounds]
    · rename_i l f1 f2
      obtain ⟨y, k, rfl, hy⟩ := opt_int T hlo f1
      obtain rfl := opt_none f2
      obtain ⟨⟨h0, h1⟩, hk⟩ := hw
      refine did_any hk (v := .string (s.extract l.toNat s.size)) (fun w => ?_) (mk_s rfl)
      simp [execOp, ho, ex, hy, Instr.sliceAt, run_underlying hu, Instr.slice, Instr.sliceBounds, Instr.sliceBound, asIntOf, h0, h1]
    · rename_i r f1 f2
      obtain rfl := opt_none f1
      obtain ⟨y, k, rfl, hy⟩ := opt_int T hhi f2
      obtain ⟨⟨h0, h1⟩, hk⟩ := hw
      refine did_any hk (v := .string (s.extract 0 r.toNat)) (fun w => ?_) (mk_s rfl)
      simp [execOp, ho, ex, hy, Instr.sliceAt, run_underlying hu, Instr.slice, Instr.sliceBounds, Instr.sliceBound, asIntOf, h0, h1]
    · rename_i l r f1 f2
      obtain ⟨y, k, rfl, hy⟩ := opt_int T hlo f1
      obtain ⟨y', k', rfl, hy'⟩ := opt_int T hhi f2
      obtain ⟨⟨h0, h1, h2⟩, hk⟩ := hw
      have h3 : 0 ≤ r := by omega
      have h4 : l ≤ (r.toNat : Int) := by omega
      have h5 : max r 0 = r := by omega
      refine did_any hk (v := .string (s.extract l.toNat r.toNat)) (fun w => ?_) (mk_s rfl)
      simp [execOp, ho, ex, hy, hy', Instr.sliceAt, run_underlying hu, Instr.slice, Instr.sliceBounds, Instr.sliceBound, asIntOf, h0, h1, h2, h3, h4, h5]
    · exact hw.elim
  · rename_i b off len cap e e1 e2
    rw [e1] at ex
    obtain ⟨blk, base, hp, ex⟩ := sl_rel ex
    have hu := tK_slice e2
    split at hw
    · rename_i n hn
      split at hw
      · rename_i f1 f2 f3
        obtain rfl := opt_none f1
        obtain rfl := opt_none f2
        obtain rfl := opt_none f3
        refine did_any hw (v := .slice (some ⟨blk, base + off, none⟩) len cap) (fun w => ?_) (mk_sl hp)
        simp only [execOp, ho, ex, Instr.sliceAt, Sem.run_bind, run_underlying hu, Instr.slice, Instr.sliceBounds, Result.andThen_ok, Sem.run_pure, run_sz hn]
        simp [addr_add]
      · rename_i l f1 f2 f3
        obtain ⟨y, k, rfl, hy⟩ := opt_int T hlo f1
        obtain rfl := opt_none f2
        obtain rfl := opt_none f3
        obtain ⟨⟨h0, h1⟩, hk⟩ := hw
        refine did_any hk (v := .slice (some ⟨blk, base + (if cap = l.toNat then off else off + l.toNat * n), none⟩) (len - l.toNat) (cap - l.toNat)) (fun w => ?_) ?_
        · have := cut_addr (blk := blk) (base := base) (off := off) (c := cap) (l := l.toNat) (n := n)
          simp [execOp, ho, ex, hy, Instr.sliceAt, run_underlying hu, Instr.slice, Instr.sliceBounds, Instr.sliceBound, asIntOf, h0, h1, run_sz hn]
          simpa using this
        · split
          · exact mk_sl hp
          · exact mk_sl hp
      · rename_i r f1 f2 f3
        obtain rfl := opt_none f1
        obtain ⟨y, k, rfl, hy⟩ := opt_int T hhi f2
        obtain rfl := opt_none f3
        obtain ⟨⟨h0, h1⟩, hk⟩ := hw
        refine did_any hk (v := .slice (some ⟨blk, base + off, none⟩) r.toNat cap) (fun w => ?_) (mk_sl hp)
        simp [execOp, ho, ex, hy, Instr.sliceAt, run_underlying hu, Instr.slice, Instr.sliceBounds, Instr.sliceBound, asIntOf, h0, h1, run_sz hn, addr_add]
      · rename_i l r f1 f2 f3
        obtain ⟨y, k, rfl, hy⟩ := opt_int T hlo f1
        obtain ⟨y', k', rfl, hy'⟩ := opt_int T hhi f2
        obtain rfl := opt_none f3
        obtain ⟨⟨h0, h1, h2⟩, hk⟩ := hw
        have h3 : 0 ≤ r := by omega
        have h4 : l ≤ (r.toNat : Int) := by omega
        have h5 : max r 0 = r := by omega
        refine did_any hk (v := .slice (some ⟨blk, base + (if cap = l.toNat then off else off + l.toNat * n), none⟩) (r.toNat - l.toNat) (cap - l.toNat)) (fun w => ?_) ?_
        · have := cut_addr (blk := blk) (base := base) (off := off) (c := cap) (l := l.toNat) (n := n)
          simp [execOp, ho, ex, hy, hy', Instr.sliceAt, run_underlying hu, Instr.slice, Instr.sliceBounds, Instr.sliceBound, asIntOf, h0, h1, h2, h3, h4, h5, run_sz hn]
          simpa using this
        · split
          · exact mk_sl hp
          · exact mk_sl hp
      · rename_i r m f1 f2 f3
        obtain rfl := opt_none f1
        obtain ⟨y, k, rfl, hy⟩ := opt_int T hhi f2
        obtain ⟨y', k', rfl, hy'⟩ := opt_int T hmx f3
        obtain ⟨⟨h0, h1, h2⟩, hk⟩ := hw
        have h3 : 0 ≤ m := by omega
        have h4 : r ≤ (m.toNat : Int) := by omega
        have h5 : max m 0 = m := by omega
        refine did_any hk (v := .slice (some ⟨blk, base + off, none⟩) r.toNat m.toNat) (fun w => ?_) (mk_sl hp)
        simp [execOp, ho, ex, hy, hy', Instr.sliceAt, run_underlying hu, Instr.slice, Instr.sliceBounds, Instr.sliceBound, asIntOf, h0, h1, h2, h3, h4, h5, run_sz hn, addr_add]
      · exact hw.elim
    · exact hw.elim
  · exact hw.elim

/-- The operations that do not look at the world. -/
def isA : Op → Bool
  | .move _ | .assign _ | .pick .. | .build .. | .nilCheck _ | .binOp .. | .unOp .. | .convert .. | .makeInterface .. | .makeFunc .. | .slice .. | .fieldAddr .. | .field .. | .indexAddr .. | .index .. | .extract .. => true
  | _ => false

theorem opW_any (hA : isA o.op = true) (hok : o.op.operands.all opdOk = true) (T : RelT φ τ a) (hw : opW P τ h o.op K) : DidA P o a φ fun x => K x h := by
  cases hop : o.op <;> rw [hop] at hw hok hA <;> simp only [Op.operands, Array.all_push, List.all_toArray, Array.all_append, List.all_cons, List.all_nil, Bool.and_true, Bool.and_eq_true] at hok
  case move x => exact sem_move (.inl hop) T hok hw
  case assign x => exact sem_move (.inr hop) T hok hw
  case pick c x y => exact sem_pick hop T hok.1 hok.2.1 hok.2.2 hw
  case build t ps => exact sem_build hop T hok hw
  case nilCheck x => exact sem_nilCheck hop T hok hw
  case binOp op t x y u => exact sem_binOp hop T hok.1 hok.2 hw
  case unOp op t x => exact sem_unOp hop T hok hw
  case convert s d x => exact sem_convert hop T hok hw
  case makeInterface t x => exact sem_makeInterface hop T hok hw
  case makeFunc fn first caps => exact sem_makeFunc hop T (by have := hok.2; rw [← Array.all_toList] at this; exact this) hw
  case slice t x lo hi mx =>
    refine sem_slice hop T ?_ ?_ ?_ ?_ hw
    · exact hok.1.1.1
    · rintro y rfl; simpa using hok.1.1.2
    · rintro y rfl; simpa using hok.1.2
    · rintro y rfl; simpa using hok.2
  case fieldAddr s x f => exact sem_fieldAddr hop T hok hw
  case field s x f => exact sem_field hop T hok hw
  case indexAddr t x i => exact sem_indexAddr hop T hok.1 hok.2 hw
  case index t x i => exact sem_index hop T hok.1 hok.2 hw
  case extract x i => exact sem_extract hop T hok hw
  all_goals cases hA

theorem opW_sound (hok : o.op.operands.all opdOk = true) (R : Rel B w0 φ h w) (T : RelT φ τ a) (hw : opW P τ h o.op K) : Did P o a w B w0 φ K := by
  by_cases hA : isA o.op = true
  · exact ((opW_any hA hok T hw).v w).did R
  cases hop : o.op <;> rw [hop] at hw hok hA <;> simp only [Op.operands, Array.all_push, List.all_toArray, Array.all_append, List.all_cons, List.all_nil, Bool.and_true, Bool.and_eq_true] at hok
  case alloc e => exact sem_alloc hop R hw
  case box e x => exact sem_box hop R T hok hw
  case buildSlice t n ps => exact sem_buildSlice hop R T hok hw
  case load t x => exact (sem_load hop R T hok hw).did R
  case store t p x => exact sem_store hop R T hok.1 hok.2 hw
  case makeSlice t l c => exact sem_makeSlice hop R T hok.1 hok.2 hw
  all_goals first
    | exact absurd rfl hA
    | (simp only [opW] at hw; done)

end
end Go.VL
