/- A layer for walking through code on abstract values and an abstract heap: its definitions and their soundness; no condition. -/
import Derived.Test.YtpcgnmoogjahbaaVI
set_option linter.unusedVariables false
set_option linter.unusedSimpArgs false
namespace Go.VL
open Go Go.RowKit

section
variable {P : Program} {o : Oper} {a : Act} {w : World} {B : Nat} {w0 : World} {φ : Phi} {K : V → H → Prop} {h : H} {τ : Tau}

theorem ptrsOf_rel : ∀ {xs : List V} {vs : List Value} {ps : List (Nat × Nat)}, ptrsOf xs = some ps → All2 (RelV φ) xs vs → places φ ps = some vs
  | [], [], ps, h, _ => by simp [ptrsOf] at h; subst h; rfl
  | .ptr b o :: xs, v :: vs, ps, h, r => by
    simp only [ptrsOf] at h
    cases hp : ptrsOf xs with
    | none => rw [hp] at h; cases h
    | some l =>
      rw [hp] at h; obtain rfl := Option.some.inj h
      obtain ⟨blk, base, h1, rfl⟩ := ptr_rel r.1
      simp [places, place, h1, ptrsOf_rel hp r.2]
  | .s _ :: _, _ :: _, _, h, _ => by simp [ptrsOf] at h
  | .sl _ _ _ _ :: _, _ :: _, _, h, _ => by simp [ptrsOf] at h
  | .fn _ _ :: _, _ :: _, _, h, _ => by simp [ptrsOf] at h
  | .agg _ :: _, _ :: _, _, h, _ => by simp [ptrsOf] at h
  | .tup _ :: _, _ :: _, _, h, _ => by simp [ptrsOf] at h
  | .any :: _, _ :: _, _, h, _ => by simp [ptrsOf] at h
  | [], _ :: _, _, _, r => r.elim
  | _ :: _, [], _, _, r => r.elim

theorem evs_rel (T : RelT φ τ a) : ∀ {xs : List Operand}, xs.all opdOk = true → All2 (RelV φ) (xs.map (ev τ)) (xs.map a.eval)
  | [], _ => trivial
  | x :: xs, h => by
    simp only [List.all_cons, Bool.and_eq_true] at h
    exact ⟨ev_rel T x h.1, evs_rel T h.2⟩

theorem sem_makeFunc {fn : Fn} {first caps : Array Operand} (ho : o.op = .makeFunc fn first caps) (T : RelT φ τ a) (hx : caps.toList.all opdOk = true)
    (hw : opW P τ h (.makeFunc fn first caps) K) : DidA P o a φ (fun x => K x h) := by
  unfold opW at hw
  simp only at hw
  split at hw
  · rename_i f ps e1 e2
    have r := ptrsOf_rel e2 (evs_rel T hx)
    have hf : first = #[] := by simpa using e1
    refine did_any hw (v := .func (.func f) #[] (caps.map a.eval)) (fun w => ?_) ?_
    · simp [execOp, ho, hf, Instr.makeFunc]
    · have e : (caps.toList.map a.eval).toArray = caps.map a.eval := by apply Array.ext'; simp
      simp only [RelV, RelQ, RelC, conc, r, Option.map_some, e]
  · exact hw.elim

theorem wrL_all2 {R : V → Value → Prop} : ∀ {cs : List V} {off : Nat} {xs : List V} {c : List Value} {vs : List Value}, All2 R cs c → All2 R xs vs → All2 R (wrL cs off xs) (wrL c off vs)
  | cs, off, [], c, [], hc, _ => hc
  | cs, off, x :: xs, c, v :: vs, hc, hx => by
    simp only [wrL]
    refine wrL_all2 ?_ hx.2
    refine All2.of_get (by simp [hc.length]) fun i y u e1 e2 => ?_
    rw [List.getElem?_set] at e1 e2
    by_cases e : off = i
    · rw [if_pos e] at e1 e2
      split at e1
      · rw [if_pos (by rw [← hc.length]; assumption)] at e2
        cases e1; cases e2; exact hx.1
      · cases e1
    · rw [if_neg e] at e1 e2
      obtain ⟨u', h1, h2⟩ := hc.get i y e1
      rw [e2] at h1; cases h1; exact h2
  | _, _, [], _, _ :: _, _, hx => hx.elim
  | _, _, _ :: _, _, [], _, hx => hx.elim

theorem fold_wrL (off : Nat) : ∀ (l : List Value) (k : Nat) (c : Array Value),
    (l.zipIdx k).foldl (fun cs (p : Value × Nat) => cs.setIfInBounds (off + p.2) p.1) c = (wrL c.toList (off + k) l).toArray
  | [], k, c => by simp [wrL]
  | v :: l, k, c => by
    simp only [List.zipIdx_cons, List.foldl_cons, wrL]
    rw [fold_wrL off l (k + 1)]
    simp [Nat.add_assoc, Array.toList_setIfInBounds]

theorem wrL_len {α : Type} : ∀ (cs : List α) (off : Nat) (xs : List α), (wrL cs off xs).length = cs.length
  | _, _, [] => rfl
  | cs, off, x :: xs => by simp only [wrL]; rw [wrL_len]; simp

theorem fill_rel {place : Nat → Option (Nat × Nat)} : ∀ {ps : List (Nat × V)} {qs : List (Nat × Value)} {cells cs : List V} {c : Array Value},
    All2 (fun p q => p.1 = q.1 ∧ RelV φ p.2 q.2) ps qs → All2 (RelC φ) cells c.toList → fillV place cells ps = some cs →
    ∃ c', Instr.fill place c qs = some c' ∧ All2 (RelC φ) cs c'.toList ∧ c'.size = c.size
  | [], [], cells, cs, c, _, hc, h => by simp [fillV] at h; subst h; exact ⟨c, rfl, hc, rfl⟩
  | (i, v) :: ps, (j, u) :: qs, cells, cs, c, hp, hc, h => by
    obtain ⟨⟨rfl, hr⟩, hp⟩ := hp
    simp only [fillV] at h
    split at h
    · rename_i off size xs e1 e2
      split at h
      · rename_i hl
        obtain ⟨q1, q2⟩ := cellsOf_rel e2 hr
        have hlen := q1.length
        have hcl := hc.length
        simp at hlen hcl
        obtain ⟨c', h1, h2, h3⟩ := fill_rel (c := (wrL c.toList off u.cells.toList).toArray) hp (by simpa using wrL_all2 hc q1) h
        refine ⟨c', ?_, h2, by rw [h3]; simp [wrL_len]⟩
        simp only [Instr.fill, e1]
        rw [if_neg (by simp; omega)]
        rw [← Array.foldl_toList, Array.toList_zipIdx, fold_wrL]
        exact h1
      · cases h
    · cases h
  | [], _ :: _, _, _, _, hp, _, _ => hp.elim
  | _ :: _, [], _, _, _, hp, _, _ => hp.elim

theorem parts_rel (T : RelT φ τ a) : ∀ {ps : List (Nat × Operand)}, (ps.map (·.2)).all opdOk = true →
    All2 (fun (p : Nat × V) (q : Nat × Value) => p.1 = q.1 ∧ RelV φ p.2 q.2) (ps.map fun p => (p.1, ev τ p.2)) (ps.map fun p => (p.1, a.eval p.2))
  | [], _ => trivial
  | p :: ps, h => by
    simp only [List.map_cons, List.all_cons, Bool.and_eq_true] at h
    exact ⟨⟨rfl, ev_rel T p.2 h.1⟩, parts_rel T h.2⟩

theorem mapM_sizes : ∀ (fs : List Field) (w : World), (∀ f ∈ fs, (tSz P f.type).isSome = true) →
    (fs.mapM (m := Sem) fun f => do pure (f.offset, ← sizeOf f.type)).run P w = .ok (fs.map fun f => (f.offset, (tSz P f.type).getD 0)) w
  | [], w, _ => rfl
  | f :: fs, w, h => by
    obtain ⟨n, hn⟩ := Option.isSome_iff_exists.1 (h f (by simp))
    have ih := mapM_sizes fs w fun g hg => h g (by simp [hg])
    rw [List.mapM_cons]
    simp only [Sem.run_bind, run_sz hn, Result.andThen_ok, Sem.run_pure, ih, hn, List.map_cons, Option.getD_some]

theorem sem_build {t : TypeId} {ps : Array (Nat × Operand)} (ho : o.op = .build t ps) (T : RelT φ τ a) (hx : (ps.toList.map (·.2)).all opdOk = true)
    (hw : opW P τ h (.build t ps) K) : DidA P o a φ (fun x => K x h) := by
  unfold opW at hw
  simp only at hw
  split at hw
  · rename_i z hb hz
    obtain ⟨zv, hzv, rfl⟩ := run_zero (P := P) hz
    split at hw
    · rename_i cs hf
      obtain ⟨h1, hk⟩ := hw
      unfold bldOk at hb
      split at hb
      · rename_i fs hu
        have hpl : ∀ i, fldPlace P t i = ((fs.toList.map fun f => (f.offset, (tSz P f.type).getD 0)).toArray)[i]? := by
          intro i
          unfold fldPlace tFld
          rw [hu]
          simp only [List.getElem?_toArray, List.getElem?_map, Array.getElem?_toList]
          cases hfi : fs[i]? with
          | none => rfl
          | some f =>
            have hm : f ∈ fs.toList := by
              have := Array.mem_of_getElem? hfi
              simpa using this
            obtain ⟨n, hn⟩ := Option.isSome_iff_exists.1 (List.all_eq_true.1 hb f hm)
            simp [hn]
        obtain ⟨c', q1, q2, q3⟩ := fill_rel (place := fldPlace P t) (c := zv.cells) (parts_rel T hx) (all2_s h1) hf
        have hplf : fldPlace P t = fun i => ((fs.toList.map fun f => (f.offset, (tSz P f.type).getD 0)).toArray)[i]? := funext hpl
        rw [hplf] at q1
        refine did_any hk (v := .agg c') (fun w => ?_) ⟨c', rfl, q2⟩
        have hm := mapM_sizes (P := P) fs.toList w fun f hf => List.all_eq_true.1 hb f hf
        have hps : (ps.map fun p => (p.1, a.eval p.2)).toList = ps.toList.map fun p => (p.1, a.eval p.2) := by simp
        simp only [execOp, ho, Instr.build, hzv, Sem.run_bind, Result.andThen_ok, run_underlying hu, Array.mapM_eq_mapM_toList, Sem.run_map, hm, hps, q1, Sem.run_pure]
      · cases hb
    · exact hw.elim
  · exact hw.elim

theorem rep_list (z : Array Value) : ∀ len, (List.range (len * z.size)).map (fun x => z[x % z.size]!) = (List.replicate len z.toList).flatten
  | 0 => by simp
  | len + 1 => by
    have e1 : (List.range z.size).map (fun x => z[x % z.size]!) = z.toList := by
      apply List.ext_getElem?
      intro i
      by_cases hi : i < z.size
      · rw [List.getElem?_map, List.getElem?_range hi, Option.map_some, Nat.mod_eq_of_lt hi, Array.getElem?_toList, getElem!_pos z i hi, Array.getElem?_eq_getElem hi]
      · rw [List.getElem?_eq_none (by simp; omega), List.getElem?_eq_none (by simp; omega)]
    have e2 : (List.range (len * z.size)).map ((fun x => z[x % z.size]!) ∘ (z.size + ·)) = (List.range (len * z.size)).map (fun x => z[x % z.size]!) :=
      List.map_congr_left fun x _ => by show z[(z.size + x) % z.size]! = z[x % z.size]!; rw [Nat.add_mod_left]
    rw [Nat.succ_mul, Nat.add_comm, List.range_add, List.map_append, List.map_map, e1, e2, rep_list z len, List.replicate_succ, List.flatten_cons]

theorem rep_cells (z : Array Value) (n len : Nat) (hz : z.size = n) : (Array.range (len * n)).map (fun x => z[x % z.size]!) = ((List.replicate len z.toList).flatten).toArray := by
  subst hz
  apply Array.ext'
  rw [← rep_list]
  simp

theorem rep_s (z : List Value) (len : Nat) : (List.replicate len (z.map V.s)).flatten = ((List.replicate len z).flatten).map V.s := by
  induction len with
  | zero => rfl
  | succ n ih => rw [List.replicate_succ, List.flatten_cons, List.replicate_succ, List.flatten_cons, List.map_append, ih]

theorem all_rep {z : List Value} (h : z.all one = true) : ∀ len, ((List.replicate len z).flatten).all one = true
  | 0 => rfl
  | n + 1 => by simp only [List.replicate_succ, List.flatten_cons, List.all_append, h, all_rep h n, Bool.and_self]

theorem sem_buildSlice {t : TypeId} {len : Nat} {ps : Array (Nat × Operand)} (ho : o.op = .buildSlice t len ps) (R : Rel B w0 φ h w) (T : RelT φ τ a)
    (hx : (ps.toList.map (·.2)).all opdOk = true) (hw : opW P τ h (.buildSlice t len ps) K) : Did P o a w B w0 φ K := by
  unfold opW at hw
  simp only at hw
  split at hw
  · rename_i e he
    split at hw
    · rename_i n z hn hz
      obtain ⟨zv, hzv, rfl⟩ := run_zero (P := P) hz
      split at hw
      · rename_i cs hf
        obtain ⟨⟨h1, h2, h3⟩, hk⟩ := hw
        rw [rep_s] at hf
        obtain ⟨c', q1, q2, q3⟩ := fill_rel (place := fun i => some (i * n, n)) (c := ((List.replicate len zv.cells.toList).flatten).toArray) (parts_rel T hx)
          (by simpa using all2_s (φ := φ) (all_rep h1 len)) hf
        have hsz : c'.size = len * n := by
          rw [q3]
          simp at h2
          simp [h2]
        refine did_new R (c := c') (e := e) q2 (x := .sl h.n 0 len len) (v := .slice (some ⟨w.heap.size, 0, none⟩) len len) (by rw [hsz]; exact hk) ?_ sl_new
        have hps : (ps.map fun p => (p.1, a.eval p.2)).toList = ps.toList.map fun p => (p.1, a.eval p.2) := by simp
        have hrc := rep_cells zv.cells n len (by simpa using h2)
        by_cases hz0 : len * n = 0
        · have hnil : ((List.replicate len zv.cells.toList).flatten).toArray = #[] := by
            apply Array.ext'
            have : ((List.replicate len zv.cells.toList).flatten).length = 0 := by simp at h2; simp [h2]; exact hz0
            exact List.length_eq_zero_iff.1 this
          rw [hnil] at q1
          simp only [execOp, ho, Instr.buildSlice, Sem.run_bind, run_elem he, Result.andThen_ok, run_sz hn]
          rw [if_neg (by omega), if_pos hz0]
          simp only [Sem.run_bind, Sem.run_pure, Result.andThen_ok, hps, hz0, Array.range_zero', Array.map_empty, q1, newRow, run_newObj]
          rfl
        · simp only [execOp, ho, Instr.buildSlice, Sem.run_bind, run_elem he, Result.andThen_ok, run_sz hn]
          rw [if_neg (by omega), if_neg hz0]
          simp only [Sem.run_bind, Sem.run_pure, Result.andThen_ok, hzv, hps, hrc, q1, newRow, run_newObj]
          rfl
      · exact hw.elim
    · exact hw.elim
  · exact hw.elim

theorem sem_makeSlice {t : TypeId} {l c : Operand} (ho : o.op = .makeSlice t l c) (R : Rel B w0 φ h w) (T : RelT φ τ a) (hl : opdOk l = true) (hc : opdOk c = true)
    (hw : opW P τ h (.makeSlice t l c) K) : Did P o a w B w0 φ K := by
  unfold opW at hw
  simp only at hw
  have el := ev_rel T l hl
  have ec := ev_rel T c hc
  split at hw
  · rename_i e kl l' kc c' e1 e2 e3
    rw [e2] at el; rw [e3] at ec
    obtain ⟨el, -⟩ := s_rel el
    obtain ⟨ec, -⟩ := s_rel ec
    split at hw
    · rename_i n z by_ hn hz hby
      obtain ⟨⟨h0, h1, h2, h3, h4, h5⟩, hk⟩ := hw
      unfold tSz at hn; unfold tZero at hz; unfold tBytes at hby
      cases hi : P.info? e with
      | none => rw [hi] at hn; cases hn
      | some i =>
        rw [hi] at hn hz hby
        cases hiz : i.zero with
        | none => simp [hiz] at hz
        | some zv =>
          simp [hiz] at hz; simp at hn hby
          subst hz hn hby
          have hm : madeCells zv.cells (c'.toNat * i.size) = ((List.replicate c'.toNat zv.cells.toList).flatten).toArray := by
            unfold madeCells; exact rep_cells zv.cells i.size c'.toNat (by simpa using h4)
          have hr := run_make (P := P) w t e i zv (underlying_of_tElem e1) hi hiz kl kc l' c' h0 h1 (by omega) h3
          refine did_new R (c := madeCells zv.cells (c'.toNat * i.size)) (e := e) (cells := (List.replicate c'.toNat (zv.cells.toList.map .s)).flatten) ?_
            (x := .sl h.n 0 l'.toNat c'.toNat) (v := .slice (some ⟨w.heap.size, 0, none⟩) l'.toNat c'.toNat) (by rw [size_madeCells]; exact hk) ?_ sl_new
          · rw [hm, rep_s]; simpa using all2_s (φ := φ) (all_rep h5 c'.toNat)
          · simp only [execOp, ho, el, ec, Sem.run_bind, hr, Result.andThen_ok, Sem.run_pure]
    · exact hw.elim
  · exact hw.elim

end
end Go.VL
