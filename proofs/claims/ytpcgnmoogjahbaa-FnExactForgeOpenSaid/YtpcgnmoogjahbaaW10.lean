/- A layer for walking through code on abstract values, told apart by who owns the memory: its definitions and their soundness; no condition. -/
import Derived.Test.YtpcgnmoogjahbaaW9
set_option linter.unusedVariables false
set_option linter.unusedSimpArgs false
namespace Go.W
open Go Go.RowKit

section
variable {C : Cx} {o : Oper} {a : Act} {w : World} {S : Nat → Prop} {w0 : World} {φ : Phi} {K : V → H → Prop} {h : H} {τ : Tau} {F : Nat → Fp}

theorem evs_rel (G : RelG C φ.z) (T : RelT φ τ a) : ∀ {xs : List Operand}, xs.all opdOk = true → All2 (RelV φ) (evs C τ xs) (xs.map a.eval)
  | [], _ => trivial
  | x :: xs, h => by
    simp only [List.all_cons, Bool.and_eq_true] at h
    exact ⟨ev_rel G T x h.1, evs_rel G T h.2⟩

theorem relP_of_relV {x : V} {v : Value} (hx : capOk x = true) (r : RelV φ x v) : RelP φ x v := by
  cases x <;> first | exact r | simp [capOk] at hx
theorem caps_rel : ∀ {xs : List V} {vs : List Value}, xs.all capOk = true → All2 (RelV φ) xs vs → All2 (RelP φ) xs vs
  | [], [], _, _ => trivial
  | x :: xs, v :: vs, h, r => by
    simp only [List.all_cons, Bool.and_eq_true] at h
    exact ⟨relP_of_relV h.1 r.1, caps_rel h.2 r.2⟩
  | [], _ :: _, _, r => r.elim
  | _ :: _, [], _, r => r.elim

theorem sem_makeFunc {fn : Fn} {first caps : Array Operand} (ho : o.op = .makeFunc fn first caps) (G : RelG C φ.z) (T : RelT φ τ a) (hx : caps.toList.all opdOk = true)
    (hw : mfK K h fn first.toList (evs C τ caps.toList)) : DidA C.P o a φ (fun x => K x h) := by
  unfold mfK at hw
  split at hw
  · rename_i f e1
    obtain ⟨hc, hk⟩ := hw
    have hf : first = #[] := by simpa using e1
    refine did_any hk (v := .func (.func f) #[] (caps.map a.eval)) (fun w => ?_) ?_
    · simp [execOp, ho, hf, Instr.makeFunc]
    · have e : (caps.toList.map a.eval).toArray = caps.map a.eval := by apply Array.ext'; simp
      exact ⟨_, by rw [e], caps_rel hc (evs_rel G T hx)⟩
  · exact hw.elim

theorem wrL_all2 {R : V → Value → Prop} : ∀ {cs : List V} {off : Nat} {xs : List V} {c : List Value} {vs : List Value}, All2 R cs c → All2 R xs vs → All2 R (wrL cs off xs) (wrL c off vs)
  | cs, off, [], c, [], hc, _ => hc
  | cs, off, x :: xs, c, v :: vs, hc, hx => by
    simp only [wrL]
    refine wrL_all2 ?_ hx.2
    refine All2.of_get (by simp [hc.length]) fun i y u e1 e2 => ?_
    rw [List.getElem?_set] at e1 e2
    by_cases e : off = i
    · rw [if_pos e] at e1 e2
      split at e1
      · rw [if_pos (by rw [← hc.length]; assumption)] at e2
        cases e1; cases e2; exact hx.1
      · cases e1
    · rw [if_neg e] at e1 e2
      obtain ⟨u', h1, h2⟩ := hc.get i y e1
      rw [e2] at h1; cases h1; exact h2
  | _, _, [], _, _ :: _, _, hx => hx.elim
  | _, _, _ :: _, _, [], _, hx => hx.elim

theorem fold_wrL (off : Nat) : ∀ (l : List Value) (k : Nat) (c : Array Value),
    (l.zipIdx k).foldl (fun cs (p : Value × Nat) => cs.setIfInBounds (off + p.2) p.1) c = (wrL c.toList (off + k) l).toArray
  | [], k, c => by simp [wrL]
  | v :: l, k, c => by
    simp only [List.zipIdx_cons, List.foldl_cons, wrL]
    rw [fold_wrL off l (k + 1)]
    simp [Nat.add_assoc, Array.toList_setIfInBounds]

theorem fill_rel {place : Nat → Option (Nat × Nat)} : ∀ {ps : List (Nat × V)} {qs : List (Nat × Value)} {cells cs : List V} {c : Array Value},
    All2 (fun p q => p.1 = q.1 ∧ RelV φ p.2 q.2) ps qs → All2 (RelC φ) cells c.toList → fillV place cells ps = some cs →
    ∃ c', Instr.fill place c qs = some c' ∧ All2 (RelC φ) cs c'.toList ∧ c'.size = c.size
  | [], [], cells, cs, c, _, hc, h => by simp [fillV] at h; subst h; exact ⟨c, rfl, hc, rfl⟩
  | (i, v) :: ps, (j, u) :: qs, cells, cs, c, hp, hc, h => by
    obtain ⟨⟨rfl, hr⟩, hp⟩ := hp
    simp only [fillV] at h
    split at h
    · rename_i off size xs e1 e2
      split at h
      · rename_i hl
        obtain ⟨q1, q2⟩ := cellsOf_rel e2 hr
        have hlen := q1.length
        have hcl := hc.length
        simp at hlen hcl
        obtain ⟨c', h1, h2, h3⟩ := fill_rel (c := (wrL c.toList off u.cells.toList).toArray) hp (by simpa using wrL_all2 hc q1) h
        refine ⟨c', ?_, h2, by rw [h3]; simp [wrL_len]⟩
        simp only [Instr.fill, e1]
        rw [if_neg (by simp; omega)]
        rw [← Array.foldl_toList, Array.toList_zipIdx, fold_wrL]
        exact h1
      · cases h
    · cases h
  | [], _ :: _, _, _, _, hp, _, _ => hp.elim
  | _ :: _, [], _, _, _, hp, _, _ => hp.elim

theorem parts_rel (G : RelG C φ.z) (T : RelT φ τ a) : ∀ {ps : List (Nat × Operand)}, (ps.map (·.2)).all opdOk = true →
    All2 (fun (p : Nat × V) (q : Nat × Value) => p.1 = q.1 ∧ RelV φ p.2 q.2) (partsV C τ ps) (ps.map fun p => (p.1, a.eval p.2))
  | [], _ => trivial
  | p :: ps, h => by
    simp only [List.map_cons, List.all_cons, Bool.and_eq_true] at h
    exact ⟨⟨rfl, ev_rel G T p.2 h.1⟩, parts_rel G T h.2⟩

theorem mapM_sizes {P : Program} : ∀ (fs : List Field) (w : World), (∀ f ∈ fs, (tSz P f.type).isSome = true) →
    (fs.mapM (m := Sem) fun f => do pure (f.offset, ← sizeOf f.type)).run P w = .ok (fs.map fun f => (f.offset, (tSz P f.type).getD 0)) w
  | [], w, _ => rfl
  | f :: fs, w, h => by
    obtain ⟨n, hn⟩ := Option.isSome_iff_exists.1 (h f (by simp))
    have ih := mapM_sizes fs w fun g hg => h g (by simp [hg])
    rw [List.mapM_cons]
    simp only [Sem.run_bind, run_sz hn, Result.andThen_ok, Sem.run_pure, ih, hn, List.map_cons, Option.getD_some]

theorem sem_build {t : TypeId} {ps : Array (Nat × Operand)} (ho : o.op = .build t ps) (G : RelG C φ.z) (T : RelT φ τ a) (hx : (ps.toList.map (·.2)).all opdOk = true)
    (hw : buildK K h (fldPlace C.P t) (partsV C τ ps.toList) (bldOk C.P t) (tZ C.P t)) : DidA C.P o a φ (fun x => K x h) := by
  unfold buildK at hw
  split at hw
  · rename_i z hb hz
    obtain ⟨zv, hzv, rfl, h1, _⟩ := run_zero (P := C.P) hz
    unfold buildK1 at hw
    split at hw
    · rename_i cs hf
      unfold bldOk at hb
      split at hb
      · rename_i fs hu
        have hpl : ∀ i, fldPlace C.P t i = ((fs.toList.map fun f => (f.offset, (tSz C.P f.type).getD 0)).toArray)[i]? := by
          intro i
          unfold fldPlace tFld
          rw [hu]
          simp only [List.getElem?_toArray, List.getElem?_map, Array.getElem?_toList]
          cases hfi : fs[i]? with
          | none => rfl
          | some f =>
            have hm : f ∈ fs.toList := by
              have := Array.mem_of_getElem? hfi
              simpa using this
            obtain ⟨n, hn⟩ := Option.isSome_iff_exists.1 (List.all_eq_true.1 hb f hm)
            simp [hn]
        obtain ⟨c', q1, q2, q3⟩ := fill_rel (place := fldPlace C.P t) (c := zv.cells) (parts_rel G T hx) (all2_ofV1 h1) hf
        have hplf : fldPlace C.P t = fun i => ((fs.toList.map fun f => (f.offset, (tSz C.P f.type).getD 0)).toArray)[i]? := funext hpl
        rw [hplf] at q1
        refine did_any hw (v := .agg c') (fun w => ?_) ⟨c', rfl, q2⟩
        have hm := mapM_sizes (P := C.P) fs.toList w fun f hf => List.all_eq_true.1 hb f hf
        have hps : (ps.map fun p => (p.1, a.eval p.2)).toList = ps.toList.map fun p => (p.1, a.eval p.2) := by simp
        simp only [execOp, ho, Instr.build, hzv, Sem.run_bind, Result.andThen_ok, run_underlying hu, Array.mapM_eq_mapM_toList, Sem.run_map, hm, hps, q1, Sem.run_pure]
      · cases hb
    · exact hw.elim
  · exact hw.elim

theorem wrL_right {α : Type} (A : List α) : ∀ (xs B : List α) (k : Nat), wrL (A ++ B) (A.length + k) xs = A ++ wrL B k xs
  | [], B, k => rfl
  | x :: xs, B, k => by
    simp only [wrL]
    rw [List.set_append_right _ _ (by omega), Nat.add_sub_cancel_left, Nat.add_assoc]
    exact wrL_right A xs (B.set k x) (k + 1)
/-- Elements put into a row of elements, and cells into the row of all their cells. -/
theorem flat_set {α : Type} {n : Nat} : ∀ {els : List (List α)} {i : Nat} {xs : List α}, (∀ el ∈ els, el.length = n) → i < els.length → xs.length = n → (els.set i xs).flatten = wrL els.flatten (i * n) xs
  | [], i, xs, _, h, _ => by simp at h
  | el :: els, 0, xs, hn, _, hx => by
    have hl := hn el (by simp)
    simp only [List.set_cons_zero, List.flatten_cons, Nat.zero_mul]
    rw [wrL_eq _ _ _ (by simp; omega)]
    simp [hx, ← hl]
  | el :: els, i + 1, xs, hn, h, hx => by
    have hl := hn el (by simp)
    simp only [List.set_cons_succ, List.flatten_cons]
    have e1 : (i + 1) * n = el.length + i * n := by rw [Nat.succ_mul, hl]; omega
    rw [flat_set (fun e he => hn e (by simp [he])) (by simpa using h) hx, e1, wrL_right]

theorem fillE_rel {n : Nat} : ∀ {ps : List (Nat × V)} {els els' : List (List V)}, (∀ el ∈ els, el.length = n) → fillE n els ps = some els' →
    els'.length = els.length ∧ (∀ el ∈ els', el.length = n) ∧ fillV (fun i => some (i * n, n)) els.flatten ps = some els'.flatten
  | [], els, els', hn, h => by simp only [fillE, Option.some.injEq] at h; subst h; exact ⟨rfl, hn, rfl⟩
  | (i, v) :: ps, els, els', hn, h => by
    simp only [fillE] at h
    split at h
    · rename_i xs hxs
      split at h
      · rename_i hc
        have hn' : ∀ el ∈ els.set i xs, el.length = n := fun el he => by
          rcases List.mem_or_eq_of_mem_set he with q | q
          · exact hn el q
          · subst q; exact hc.1
        obtain ⟨h1, h2, h3⟩ := fillE_rel hn' h
        refine ⟨by simpa using h1, h2, ?_⟩
        simp only [fillV, hxs]
        have hfl : els.flatten.length = els.length * n := by
          clear h hn' h1 h2 h3 hc
          induction els with
          | nil => simp
          | cons e es ih => simp only [List.flatten_cons, List.length_append, List.length_cons, Nat.succ_mul]; rw [ih (fun x hx => hn x (by simp [hx])), hn e (by simp)]; omega
        have hfit : i * n + xs.length ≤ els.flatten.length := by
          rw [hfl, hc.1]
          have := Nat.mul_le_mul_right n hc.2
          rw [Nat.succ_mul] at this; omega
        rw [if_pos ⟨hc.1, hfit⟩, ← flat_set hn hc.2 hc.1]
        exact h3
      · cases h
    · cases h

theorem sem_buildSlice {t : TypeId} {len : Nat} {ps : Array (Nat × Operand)} (ho : o.op = .buildSlice t len ps) (R : Rel S w0 φ h w) (G : RelG C φ.z) (T : RelT φ τ a)
    (hx : (ps.toList.map (·.2)).all opdOk = true) (hw : bsK C K h len (partsV C τ ps.toList) (tElem C.P t)) : Did C.P o a w S w0 φ h.length K := by
  unfold bsK at hw
  split at hw
  · rename_i e he
    unfold bsK1 at hw
    split at hw
    · rename_i n z hn hz
      obtain ⟨h2, hw⟩ := hw
      obtain ⟨zv, hzv, rfl, h1, _⟩ := run_zero (P := C.P) hz
      unfold bsK2 at hw
      split at hw
      · rename_i els hf
        obtain ⟨⟨h3, h4⟩, hk⟩ := hw
        obtain ⟨g1, g2, g3⟩ := fillE_rel (by simp at h2; simp [h2]) hf
        have hzs : zv.cells.size = n := by simpa using h2
        obtain ⟨c', q1, q2, q3⟩ := fill_rel (place := fun i => some (i * n, n)) (c := ((List.replicate len zv.cells.toList).flatten).toArray) (parts_rel G T hx)
          (by rw [rep_flat]; simpa using all2_ofV1 (φ := φ) (all_rep h1 len)) g3
        have hsz : c'.size = len * n := by rw [q3]; simp [hzs]
        have hel : els.length = len := by simpa using g1
        refine did_new R (els := els) (n := n) (cap := len) (c := c') (e := e) g2 (by rw [take_all (by simp [hel, hsz])]; exact q2) hsz (by omega) (by
            unfold LIM; omega) (x := .sl h.length 0 len len) (v := .slice (some ⟨w.heap.size, 0, none⟩) len len) hk ?_ (sl_new (Nat.le_refl _))
        have hps : (ps.map fun p => (p.1, a.eval p.2)).toList = ps.toList.map fun p => (p.1, a.eval p.2) := by simp
        have hrc := rep_cells zv.cells n len hzs
        by_cases hz0 : len * n = 0
        · have hnil : ((List.replicate len zv.cells.toList).flatten).toArray = #[] := by
            apply Array.ext'
            have : ((List.replicate len zv.cells.toList).flatten).length = 0 := by simp [hzs, hz0]
            exact List.length_eq_zero_iff.1 this
          rw [hnil] at q1
          simp only [execOp, ho, Instr.buildSlice, Sem.run_bind, run_elem he, Result.andThen_ok, run_sz hn]
          rw [if_neg (by omega), if_pos hz0]
          simp only [Sem.run_bind, Sem.run_pure, Result.andThen_ok, hps, hz0, Array.range_zero', Array.map_empty, q1, newRow, run_newObj]
          rfl
        · simp only [execOp, ho, Instr.buildSlice, Sem.run_bind, run_elem he, Result.andThen_ok, run_sz hn]
          rw [if_neg (by omega), if_neg hz0]
          simp only [Sem.run_bind, Sem.run_pure, Result.andThen_ok, hzv, hps, hrc, q1, newRow, run_newObj]
          rfl
      · exact hw.elim
    · exact hw.elim
  · exact hw.elim

theorem sem_extract {x : Operand} {i : Nat} (ho : o.op = .extract x i) (G : RelG C φ.z) (T : RelT φ τ a) (hx : opdOk x = true)
    (hw : exK K h i (ev C τ x)) : DidA C.P o a φ (fun x => K x h) := by
  have ex := ev_rel G T x hx
  unfold exK at hw
  split at hw
  · rename_i vs e
    rw [e] at ex
    obtain ⟨l, hv, r⟩ := ex
    unfold ldC at hw
    split at hw
    · rename_i v hi
      obtain ⟨c, h1, h2⟩ := r.get i v hi
      refine did_any hw (v := c) (fun w => ?_) ?_
      · have h1' : l[i]? = some c := by simpa using h1
        simp [execOp, ho, hv, Instr.extract, h1']
      · cases v with
        | tup cs => simp [RelQ, RelC, RelP, RZ] at h2
        | _ => exact h2
    · exact hw.elim
  · exact hw.elim

theorem scal_rel : ∀ {xs : List V} {l vs : List Value}, scal xs = some l → All2 (RelC φ) xs vs → vs = l
  | [], l, [], h, _ => by simp [scal] at h; exact h.symm
  | .s v :: xs, l, u :: vs, h, r => by
    simp only [scal] at h
    split at h
    · rename_i l' hl
      obtain rfl := Option.some.inj h
      have h1 : u = v := by have := r.1; simp only [RelC, RelP, RZ] at this; exact this.1
      rw [h1, scal_rel hl r.2]
    · cases h
  | [], _, _ :: _, _, r => r.elim
  | _ :: _, _, [], _, r => r.elim
  | .f _ _ :: _, _, _ :: _, h, _ => by simp [scal] at h
  | .l _ _ :: _, _, _ :: _, h, _ => by simp [scal] at h
  | .lp _ :: _, _, _ :: _, h, _ => by simp [scal] at h
  | .z :: _, _, _ :: _, h, _ => by simp [scal] at h
  | .sl _ _ _ _ :: _, _, _ :: _, h, _ => by simp [scal] at h
  | .ptr _ _ _ :: _, _, _ :: _, h, _ => by simp [scal] at h
  | .pd _ :: _, _, _ :: _, h, _ => by simp [scal] at h
  | .fn _ _ :: _, _, _ :: _, h, _ => by simp [scal] at h
  | .agg _ :: _, _, _ :: _, h, _ => by simp [scal] at h
  | .tup _ :: _, _, _ :: _, h, _ => by simp [scal] at h
  | .any :: _, _, _ :: _, h, _ => by simp [scal] at h

theorem sem_makeInterface {t : TypeId} {x : Operand} (ho : o.op = .makeInterface t x) (G : RelG C φ.z) (T : RelT φ τ a) (hx : opdOk x = true)
    (hw : miK C K h t (ev C τ x)) : DidA C.P o a φ (fun x => K x h) := by
  have ex := ev_rel G T x hx
  unfold miK at hw
  split at hw
  · rename_i u e
    rw [e] at ex
    obtain ⟨ex, -⟩ := s_rel ex
    obtain ⟨hc, hk⟩ := hw
    refine did_any hk (v := .iface t u) (fun w => ?_) (mk_s rfl)
    simp [execOp, ho, ex, run_makeInterface _ _ _ hc]
  · rename_i cs e
    rw [e] at ex
    obtain ⟨l, ex, hl⟩ := ex
    obtain ⟨hc, hk⟩ := hw
    unfold miA at hk
    split at hk
    · rename_i vs hvs
      have hle := scal_rel hvs hl
      have hl' : l = vs.toArray := by apply Array.ext'; simpa using hle
      rw [hl'] at ex
      refine did_any hk (v := .iface t (.agg vs.toArray)) (fun w => ?_) (mk_s rfl)
      simp [execOp, ho, ex, run_makeInterface _ _ _ hc]
    · exact hk.elim
  · exact hw.elim

theorem sem_index {t : TypeId} {x i : Operand} (ho : o.op = .index t x i) (G : RelG C φ.z) (T : RelT φ τ a) (hx : opdOk x = true) (hi : opdOk i = true)
    (hw : ixK K h (tK C.P t) (ev C τ x) (ev C τ i)) : DidA C.P o a φ (fun x => K x h) := by
  have ex := ev_rel G T x hx
  have ei := ev_rel G T i hi
  unfold ixK at hw
  split at hw
  · rename_i s k n e1 e2
    rw [e1] at ex; rw [e2] at ei
    obtain ⟨ex, -⟩ := s_rel ex
    obtain ⟨ei, -⟩ := s_rel ei
    obtain ⟨ht, hw⟩ := hw
    unfold ixC at hw
    split at hw
    · rename_i c hc
      obtain ⟨h0, hk⟩ := hw
      refine did_any hk (v := .int .u8 c.toNat) (fun w => ?_) (mk_s rfl)
      simp [execOp, ho, ex, ei, Instr.index, asIntOf, run_underlying (tK_string (isT_string ht)), h0, hc]
    · exact hw.elim
  · exact hw.elim

theorem sem_indexAddr {t : TypeId} {x i : Operand} (ho : o.op = .indexAddr t x i) (R : Rel S w0 φ h w) (G : RelG C φ.z) (T : RelT φ τ a) (hx : opdOk x = true) (hi : opdOk i = true)
    (hw : iaI C K h (tElem C.P t) (ev C τ x) (ev C τ i)) : DidA C.P o a φ (fun x => K x h) := by
  have ex := ev_rel G T x hx
  have ei := ev_rel G T i hi
  obtain ⟨F, R⟩ := R
  unfold iaI at hw
  split at hw
  · rename_i k j e2
    rw [e2] at ei
    obtain ⟨ei, -⟩ := s_rel ei
    unfold iaK at hw
    split at hw
    · rename_i b off len cap e1
      rw [e1] at ex
      split at hw
      · rename_i e he
        obtain ⟨⟨hst, h0, h1⟩, hk⟩ := hw
        obtain ⟨p, n, hp, hv⟩ := sl_rel ex
        cases p with
        | none => obtain ⟨_, rfl, _⟩ := hv; omega
        | some blk =>
          simp only at hv
          have hs : ∃ B, h[b]? = some B ∧ B.live = true ∧ tSz C.P e = some B.n := by
            unfold sameN at hst
            split at hst
            · rename_i a' b' hs1 hs2
              subst hst
              unfold strideB at hs1
              split at hs1
              · rename_i els n' cap' hb; exact ⟨_, hb, rfl, by rw [hs2, ← hs1]⟩
              · cases hs1
            · exact hst.elim
          obtain ⟨B, hb, hl, hsz⟩ := hs
          obtain ⟨pp, g1, _⟩ := R.place hb hl
          rw [hp] at g1; obtain ⟨rfl, rfl⟩ := Prod.mk.inj (Option.some.inj g1)
          refine did_any hk (v := .pointer (some ⟨blk, (off + j.toNat) * B.n + 0, none⟩)) (fun w => ?_) (mk_ptr hp)
          have e0 : off * B.n + j.toNat * B.n = (off + j.toNat) * B.n + 0 := by rw [Nat.add_mul]; omega
          simp [execOp, ho, hv, ei, Instr.indexAt, asIntOf, run_elem he, h0, h1, run_sz hsz, addr_add, Nat.add_mul]
      · exact hw.elim
    · rename_i n els e1
      rw [e1] at ex
      split at hw
      · rename_i e he
        obtain ⟨⟨hsz, h0⟩, hk⟩ := hw
        unfold iaF at hk
        split at hk
        · rename_i el hel
          have hlt := (List.getElem?_eq_some_iff.1 hel).1
          rcases f_rel ex with ⟨rfl, -⟩ | ⟨k', off, cap, hv, h1, h2, h3⟩
          · simp at hlt
          · obtain ⟨_, q⟩ := h3.nth hel
            have h1' : j < (els.length : Int) := by omega
            refine did_any hk (v := .pointer (some ⟨k', off + j.toNat * n, none⟩)) (fun w => ?_) ?_
            · simp [execOp, ho, hv, ei, Instr.indexAt, asIntOf, run_elem he, h0, h1', run_sz hsz, addr_add]
            · exact relV_of_rz (by simp only [RZ]; exact ⟨_, _, rfl, q⟩)
        · exact hk.elim
      · exact hw.elim
    · exact hw.elim
  · exact hw.elim

theorem sem_fieldAddr {s : TypeId} {x : Operand} {f : Nat} (ho : o.op = .fieldAddr s x f) (G : RelG C φ.z) (T : RelT φ τ a) (hx : opdOk x = true)
    (hw : faK C K h (tFld C.P s f) (ev C τ x)) : DidA C.P o a φ (fun x => K x h) := by
  have ex := ev_rel G T x hx
  have fld : ∀ {fo ft : Nat}, tFld C.P s f = some (fo, ft) → ∃ fs fd, C.P.underlying s = some (.struct fs) ∧ fs[f]? = some fd ∧ fd.offset = fo ∧ fd.type = ft := by
    intro fo ft e2
    unfold tFld at e2
    split at e2
    · rename_i fs hu
      cases hf : fs[f]? with
      | none => rw [hf] at e2; cases e2
      | some fd =>
        rw [hf] at e2
        obtain ⟨rfl, rfl⟩ := Prod.mk.inj (Option.some.inj e2)
        exact ⟨fs, fd, hu, hf, rfl, rfl⟩
    · cases e2
  unfold faK at hw
  split at hw
  · rename_i fo ft b i ob e2 e1
    rw [e1] at ex
    obtain ⟨k, n, hp, ex⟩ := ptr_rel ex
    obtain ⟨⟨m, hm⟩, hk⟩ := hw
    obtain ⟨fs, fd, hu, hf, rfl, rfl⟩ := fld e2
    refine did_any hk (v := .pointer (some ⟨k, i * n + (ob + fd.offset), none⟩)) (fun w => ?_) (mk_ptr hp)
    simp [execOp, ho, ex, Instr.fieldAt, run_underlying hu, hf, Instr.sureAddr, fieldPlace, run_sz hm, addr_add, Nat.add_assoc]
  · rename_i fo ft cs e2 e1
    rw [e1] at ex
    obtain ⟨k, off, ex, hz⟩ := pd_rel ex
    obtain ⟨⟨m, hm⟩, hk⟩ := hw
    obtain ⟨fs, fd, hu, hf, rfl, rfl⟩ := fld e2
    refine did_any hk (v := .pointer (some ⟨k, off + fd.offset, none⟩)) (fun w => ?_) (relV_of_rz (by simp only [RZ]; exact ⟨_, _, rfl, hz.drop fd.offset⟩))
    simp [execOp, ho, ex, Instr.fieldAt, run_underlying hu, hf, Instr.sureAddr, fieldPlace, run_sz hm, addr_add]
  · exact hw.elim

theorem sem_field {s : TypeId} {x : Operand} {f : Nat} (ho : o.op = .field s x f) (G : RelG C φ.z) (T : RelT φ τ a) (hx : opdOk x = true)
    (hw : fdK C K h (tFld C.P s f) (ev C τ x)) : DidA C.P o a φ (fun x => K x h) := by
  have ex := ev_rel G T x hx
  unfold fdK at hw
  split at hw
  · rename_i fo ft cs e2 e1
    rw [e1] at ex
    obtain ⟨l, ex, hl⟩ := ex
    unfold tFld at e2
    split at e2
    · rename_i fs hu
      cases hf : fs[f]? with
      | none => rw [hf] at e2; cases e2
      | some fd =>
        rw [hf] at e2
        obtain ⟨rfl, rfl⟩ := Prod.mk.inj (Option.some.inj e2)
        unfold fdA at hw
        split at hw
        · rename_i n ha hn
          obtain ⟨hlen, hk⟩ := hw
          refine did_any hk (v := .agg (l.extract fd.offset (fd.offset + n))) (fun w => ?_) ⟨_, rfl, ?_⟩
          · simp [execOp, ho, ex, Instr.field, run_underlying hu, hf, part, run_agg ha, run_sz hn, asAgg]
          · refine All2.of_get ?_ fun i x v h1 h2 => ?_
            · have := hl.length; simp at this; simp; omega
            · rw [List.getElem?_take] at h1
              split at h1
              · rename_i hin
                rw [List.getElem?_drop] at h1
                obtain ⟨c, h3, h4⟩ := hl.get _ x h1
                have : (l.extract fd.offset (fd.offset + n)).toList[i]? = l.toList[fd.offset + i]? := by
                  have hll := hl.length
                  simp at hll
                  simp only [Array.getElem?_toList, Array.getElem?_extract]
                  rw [if_pos (by omega)]
                rw [this] at h2; rw [h2] at h3; obtain rfl := Option.some.inj h3; exact h4
              · cases h1
        · rename_i ha
          unfold ldC at hw
          split at hw
          · rename_i v hi
            obtain ⟨c, h1, h2⟩ := hl.get _ v hi
            have h1' : l[fd.offset]? = some c := by simpa using h1
            refine did_any hw (v := c) (fun w => ?_) (relV_of_relC h2)
            simp [execOp, ho, ex, Instr.field, run_underlying hu, hf, part, run_agg ha, asAgg, h1']
          · exact hw.elim
        · exact hw.elim
    · cases e2
  · exact hw.elim
end
end Go.W
