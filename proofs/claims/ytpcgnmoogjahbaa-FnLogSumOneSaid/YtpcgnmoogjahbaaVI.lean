/- A layer for walking through code on abstract values and an abstract heap: its definitions and their soundness; no condition. -/
import Derived.Test.YtpcgnmoogjahbaaVH
import Derived.WalkSpells
set_option linter.unusedVariables false
set_option linter.unusedSimpArgs false
namespace Go.VL
open Go Go.RowKit

section
variable {P : Program} {o : Oper} {a : Act} {w : World} {B : Nat} {w0 : World} {φ : Phi} {K : V → H → Prop} {h : H} {τ : Tau}

theorem run_equal_slice_nil {t e : TypeId} (hu : P.underlying t = some (.slice e)) (p : Option Addr) (n c n' c' : Nat) (w : World) :
    (Op.equal t (.slice p n c) (.slice none n' c')).run P w = .ok p.isNone w := by
  unfold Op.equal; rw [show Op.maxDepth = 9999 + 1 from rfl]; unfold Op.equalIn
  cases p <;> simp only [Sem.run_bind, run_underlying hu, Result.andThen_ok, Sem.run_pure] <;> rfl

theorem sem_binOp {op : BinOp} {t u : TypeId} {x y : Operand} (ho : o.op = .binOp op t x y u) (T : RelT φ τ a) (hx : opdOk x = true) (hy : opdOk y = true)
    (hw : opW P τ h (.binOp op t x y u) K) : DidA P o a φ (fun x => K x h) := by
  unfold opW at hw
  simp only at hw
  have ex := ev_rel T x hx
  have ey := ev_rel T y hy
  split at hw
  · rename_i p q e1 e2
    rw [e1] at ex; rw [e2] at ey
    obtain ⟨ex, -⟩ := s_rel ex
    obtain ⟨ey, -⟩ := s_rel ey
    split at hw
    · rename_i v hv
      obtain ⟨hb, hk⟩ := hw
      have hr := fun w => (binV_run (P := P) hv (t := t) hb x y w).1
      have h1 := (binV_run (P := P) hv (t := t) hb x y default).2
      refine did_any hk (v := v) (fun w => ?_) (mk_s h1)
      have : (execOp a.eval o) = (do pure (.value (← (do eqGuard op t x y (a.eval x) (a.eval y); binOp op t (a.eval x) (a.eval y) : Sem Value))) : Sem Next) := by
        unfold execOp; rw [ho]
      rw [this, ex, ey, Sem.run_bind, hr]; rfl
    · split at hw
      · obtain ⟨⟨e, he⟩, hk⟩ := hw
        refine did_any hk (v := .bool true) (fun w => ?_) (mk_s rfl)
        simp [execOp, ho, ex, ey, eqGuard_at_slice, binOp, run_equal_slice_nil (tK_slice he)]
      · obtain ⟨⟨e, he⟩, hk⟩ := hw
        refine did_any hk (v := .bool false) (fun w => ?_) (mk_s rfl)
        simp [execOp, ho, ex, ey, eqGuard_at_slice, binOp, run_equal_slice_nil (tK_slice he)]
      · exact hw.elim
  · rename_i b off len cap n c e1 e2
    rw [e1] at ex; rw [e2] at ey
    obtain ⟨blk, base, hp, ex⟩ := sl_rel ex
    obtain ⟨ey, -⟩ := s_rel ey
    split at hw
    · obtain ⟨⟨e, he⟩, hk⟩ := hw
      refine did_any hk (v := .bool false) (fun w => ?_) (mk_s rfl)
      simp [execOp, ho, ex, ey, eqGuard_at_slice, binOp, run_equal_slice_nil (tK_slice he)]
    · obtain ⟨⟨e, he⟩, hk⟩ := hw
      refine did_any hk (v := .bool true) (fun w => ?_) (mk_s rfl)
      simp [execOp, ho, ex, ey, eqGuard_at_slice, binOp, run_equal_slice_nil (tK_slice he)]
    · exact hw.elim
  · exact hw.elim

theorem sem_unOp {op : UnOp} {t : TypeId} {x : Operand} (ho : o.op = .unOp op t x) (T : RelT φ τ a) (hx : opdOk x = true)
    (hw : opW P τ h (.unOp op t x) K) : DidA P o a φ (fun x => K x h) := by
  unfold opW at hw
  simp only at hw
  have ex := ev_rel T x hx
  split at hw
  · rename_i b e
    rw [e] at ex
    obtain ⟨ex, -⟩ := s_rel ex
    exact did_any hw (v := .bool (!b)) (fun w => by simp [execOp, ho, ex, Op.unary]) (mk_s rfl)
  · rename_i k n e
    rw [e] at ex
    obtain ⟨ex, -⟩ := s_rel ex
    exact did_any hw (v := .int k (k.wrap (0 - n))) (fun w => by simp [execOp, ho, ex, Op.unary, Op.intArith]) (mk_s rfl)
  · exact hw.elim

theorem sem_convert {src dst : TypeId} {x : Operand} (ho : o.op = .convert src dst x) (T : RelT φ τ a) (hx : opdOk x = true)
    (hw : opW P τ h (.convert src dst x) K) : DidA P o a φ (fun x => K x h) := by
  unfold opW at hw
  simp only at hw
  have ex := ev_rel T x hx
  split at hw
  · rename_i k' k k'' n e1 e2 e3
    rw [e3] at ex
    obtain ⟨ex, -⟩ := s_rel ex
    refine did_any hw (v := .int k (k.wrap n)) (fun w => ?_) (mk_s rfl)
    simp [execOp, ho, ex, convert, run_underlying (tK_int e1), run_underlying (tK_int e2), Conv.intToInt]
  · rename_i s e1 e2 e3
    rw [e3] at ex
    obtain ⟨ex, -⟩ := s_rel ex
    refine did_any hw (v := .string s) (fun w => ?_) (mk_s rfl)
    simp [execOp, ho, ex, convert, run_underlying (tK_string e1), run_underlying (tK_string e2)]
  · exact hw.elim

theorem sem_extract {x : Operand} {i : Nat} (ho : o.op = .extract x i) (T : RelT φ τ a) (hx : opdOk x = true)
    (hw : opW P τ h (.extract x i) K) : DidA P o a φ (fun x => K x h) := by
  unfold opW at hw
  simp only at hw
  have ex := ev_rel T x hx
  split at hw
  · rename_i vs e
    rw [e] at ex
    obtain ⟨l, hv, r⟩ := ex
    split at hw
    · rename_i v hi
      obtain ⟨c, h1, h2⟩ := r.get i v hi
      refine did_any hw (v := c) (fun w => ?_) ?_
      · have h1' : l[i]? = some c := by simpa using h1
        simp [execOp, ho, hv, Instr.extract, h1']
      · cases v with
        | tup cs => cases h2
        | _ => exact h2
    · exact hw.elim
  · exact hw.elim

theorem sem_makeInterface {t : TypeId} {x : Operand} (ho : o.op = .makeInterface t x) (T : RelT φ τ a) (hx : opdOk x = true)
    (hw : opW P τ h (.makeInterface t x) K) : DidA P o a φ (fun x => K x h) := by
  unfold opW at hw
  simp only at hw
  have ex := ev_rel T x hx
  split at hw
  · rename_i u e
    rw [e] at ex
    obtain ⟨ex, -⟩ := s_rel ex
    obtain ⟨hc, hk⟩ := hw
    refine did_any hk (v := .iface t u) (fun w => ?_) (mk_s rfl)
    simp [execOp, ho, ex, run_makeInterface _ _ _ hc]
  · exact hw.elim

theorem sem_index {t : TypeId} {x i : Operand} (ho : o.op = .index t x i) (T : RelT φ τ a) (hx : opdOk x = true) (hi : opdOk i = true)
    (hw : opW P τ h (.index t x i) K) : DidA P o a φ (fun x => K x h) := by
  unfold opW at hw
  simp only at hw
  have ex := ev_rel T x hx
  have ei := ev_rel T i hi
  split at hw
  · rename_i s k n e1 e2 e3
    rw [e1] at ex; rw [e2] at ei
    obtain ⟨ex, -⟩ := s_rel ex
    obtain ⟨ei, -⟩ := s_rel ei
    split at hw
    · rename_i c hc
      obtain ⟨h0, hk⟩ := hw
      refine did_any hk (v := .int .u8 c.toNat) (fun w => ?_) (mk_s rfl)
      simp [execOp, ho, ex, ei, Instr.index, asIntOf, run_underlying (tK_string e3), h0, hc]
    · exact hw.elim
  · exact hw.elim

theorem addr_add (blk off n : Nat) : (⟨blk, off, none⟩ : Addr).add n = ⟨blk, off + n, none⟩ := by
  unfold Addr.add; split <;> simp_all

theorem sem_indexAddr {t : TypeId} {x i : Operand} (ho : o.op = .indexAddr t x i) (T : RelT φ τ a) (hx : opdOk x = true) (hi : opdOk i = true)
    (hw : opW P τ h (.indexAddr t x i) K) : DidA P o a φ (fun x => K x h) := by
  unfold opW at hw
  simp only at hw
  have ex := ev_rel T x hx
  have ei := ev_rel T i hi
  split at hw
  · rename_i b off len cap k n e e1 e2 e3
    rw [e1] at ex; rw [e2] at ei
    obtain ⟨blk, base, hp, ex⟩ := sl_rel ex
    obtain ⟨ei, -⟩ := s_rel ei
    split at hw
    · rename_i sz hsz
      obtain ⟨⟨h0, h1⟩, hk⟩ := hw
      refine did_any hk (v := .pointer (some ⟨blk, base + (off + n.toNat * sz), none⟩)) (fun w => ?_) (mk_ptr hp)
      simp [execOp, ho, ex, ei, Instr.indexAt, asIntOf, run_elem e3, h0, h1, run_sz hsz, addr_add, Nat.add_assoc]
    · exact hw.elim
  · exact hw.elim

theorem sem_fieldAddr {s : TypeId} {x : Operand} {f : Nat} (ho : o.op = .fieldAddr s x f) (T : RelT φ τ a) (hx : opdOk x = true)
    (hw : opW P τ h (.fieldAddr s x f) K) : DidA P o a φ (fun x => K x h) := by
  unfold opW at hw
  simp only at hw
  have ex := ev_rel T x hx
  split at hw
  · rename_i b off fo ft e1 e2
    rw [e1] at ex
    obtain ⟨blk, base, hp, ex⟩ := ptr_rel ex
    obtain ⟨⟨n, hn⟩, hk⟩ := hw
    unfold tFld at e2
    split at e2
    · rename_i fs hu
      cases hf : fs[f]? with
      | none => rw [hf] at e2; cases e2
      | some fd =>
        rw [hf] at e2
        obtain ⟨rfl, rfl⟩ := Prod.mk.inj (Option.some.inj e2)
        refine did_any hk (v := .pointer (some ⟨blk, base + (off + fd.offset), none⟩)) (fun w => ?_) (mk_ptr hp)
        simp [execOp, ho, ex, Instr.fieldAt, run_underlying hu, hf, Instr.sureAddr, fieldPlace, run_sz hn, addr_add, Nat.add_assoc]
    · cases e2
  · exact hw.elim

theorem sem_field {s : TypeId} {x : Operand} {f : Nat} (ho : o.op = .field s x f) (T : RelT φ τ a) (hx : opdOk x = true)
    (hw : opW P τ h (.field s x f) K) : DidA P o a φ (fun x => K x h) := by
  unfold opW at hw
  simp only at hw
  have ex := ev_rel T x hx
  split at hw
  · rename_i cs fo ft e1 e2
    rw [e1] at ex
    obtain ⟨l, ex, hl⟩ := ex
    unfold tFld at e2
    split at e2
    · rename_i fs hu
      cases hf : fs[f]? with
      | none => rw [hf] at e2; cases e2
      | some fd =>
        rw [hf] at e2
        obtain ⟨rfl, rfl⟩ := Prod.mk.inj (Option.some.inj e2)
        split at hw
        · rename_i n ha hn
          obtain ⟨hlen, hk⟩ := hw
          refine did_any hk (v := .agg (l.extract fd.offset (fd.offset + n))) (fun w => ?_) ⟨_, rfl, ?_⟩
          · simp [execOp, ho, ex, Instr.field, run_underlying hu, hf, part, run_agg ha, run_sz hn, asAgg]
          · refine All2.of_get ?_ fun i x v h1 h2 => ?_
            · have := hl.length; simp at this; simp; omega
            · rw [List.getElem?_take] at h1
              split at h1
              · rename_i hin
                rw [List.getElem?_drop] at h1
                obtain ⟨c, h3, h4⟩ := hl.get _ x h1
                have : (l.extract fd.offset (fd.offset + n)).toList[i]? = l.toList[fd.offset + i]? := by
                  have hll := hl.length
                  simp at hll
                  simp only [Array.getElem?_toList, Array.getElem?_extract]
                  rw [if_pos (by omega)]
                rw [this] at h2; rw [h2] at h3; obtain rfl := Option.some.inj h3; exact h4
              · cases h1
        · rename_i ha
          split at hw
          · rename_i v hi
            obtain ⟨c, h1, h2⟩ := hl.get _ v hi
            have h1' : l[fd.offset]? = some c := by simpa using h1
            refine did_any hw (v := c) (fun w => ?_) (relV_of_relC h2)
            simp [execOp, ho, ex, Instr.field, run_underlying hu, hf, part, run_agg ha, asAgg, h1']
          · exact hw.elim
        · exact hw.elim
    · cases e2
  · exact hw.elim

end
end Go.VL
