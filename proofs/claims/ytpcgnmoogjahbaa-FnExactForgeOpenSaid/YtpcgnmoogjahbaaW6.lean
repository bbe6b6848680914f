/- A layer for walking through code on abstract values, told apart by who owns the memory: its definitions and their soundness; no condition. -/
import Derived.Test.YtpcgnmoogjahbaaW5
set_option linter.unusedVariables false
set_option linter.unusedSimpArgs false
namespace Go.W
open Go Go.RowKit

section
variable {S : Nat → Prop} {w0 w : World} {φ φ' : Phi} {h : H} {F : Nat → Fp}

/-! ### 1. What a value is in the world -/
theorem s_rel {u v : Value} (r : RelV φ (.s u) v) : v = u ∧ one u = true := by simpa only [RelV, RelQ, RelC, RelP, RZ] using r
theorem z_rel {v : Value} (r : RelV φ .z v) : ∃ p, v = .slice p 0 0 := by simpa only [RelV, RelQ, RelC, RelP, RZ] using r
theorem f_rel {n : Nat} {els : List (List V)} {v : Value} (r : RelV φ (.f n els) v) :
    (els = [] ∧ ∃ q, v = .slice q 0 0) ∨ ∃ k off cap, v = .slice (some ⟨k, off, none⟩) els.length cap ∧ els.length ≤ cap ∧ els.length ≤ LIM ∧ RZss φ.z k n off els := by
  simpa only [RelV, RelQ, RelC, RelP, RZ] using r
theorem pd_rel {cs : List V} {v : Value} (r : RelV φ (.pd cs) v) : ∃ k off, v = .pointer (some ⟨k, off, none⟩) ∧ RZs φ.z k off cs := by
  simpa only [RelV, RelQ, RelC, RelP, RZ] using r
theorem sl_rel {b off len cap : Nat} {v : Value} (r : RelV φ (.sl b off len cap) v) : ∃ p n, φ.m b = some (p, n) ∧ match p with
    | some k => v = .slice (some ⟨k, off * n, none⟩) len cap
    | none => (∃ q, v = .slice q 0 0) ∧ len = 0 ∧ cap = 0 ∧ off = 0 := by
  obtain ⟨p, n, h1, _, h2⟩ := r; exact ⟨p, n, h1, h2⟩
theorem sl_le {b off len cap : Nat} {v : Value} (r : RelV φ (.sl b off len cap) v) : len ≤ cap := by obtain ⟨p, n, h1, h2, _⟩ := r; exact h2
theorem ptr_rel {b i o : Nat} {v : Value} (r : RelV φ (.ptr b i o) v) : ∃ k n, φ.m b = some (some k, n) ∧ v = .pointer (some ⟨k, i * n + o, none⟩) := r
theorem fn_rel {f : Nat} {caps : List V} {v : Value} (r : RelV φ (.fn f caps) v) : ∃ l, v = .func (.func f) #[] l.toArray ∧ All2 (RelP φ) caps l := r
theorem mk_s {u : Value} (h : one u = true) : RelV φ (.s u) u := by simp [RelV, RelQ, RelC, RelP, RZ, h]
theorem mk_sl {b off len cap k n : Nat} (h : φ.m b = some (some k, n)) (hl : len ≤ cap) : RelV φ (.sl b off len cap) (.slice (some ⟨k, off * n, none⟩) len cap) := ⟨some k, n, h, hl, rfl⟩
theorem mk_nil {b n : Nat} {q : Option Addr} (h : φ.m b = some (none, n)) : RelV φ (.sl b 0 0 0) (.slice q 0 0) := ⟨none, n, h, Nat.le_refl _, ⟨q, rfl⟩, rfl, rfl, rfl⟩
theorem mk_ptr {b i o k n : Nat} (h : φ.m b = some (some k, n)) : RelV φ (.ptr b i o) (.pointer (some ⟨k, i * n + o, none⟩)) := ⟨k, n, h, rfl⟩
theorem mk_z {q : Option Addr} : RelV φ .z (.slice q 0 0) := by simp only [RelV, RelQ, RelC, RelP, RZ]; exact ⟨q, rfl⟩
theorem mk_f0 {n : Nat} {q : Option Addr} : RelV φ (.f n []) (.slice q 0 0) := by simp [RelV, RelQ, RelC, RelP, RZ]
theorem mk_fe {n k off cap : Nat} : RelV φ (.f n []) (.slice (some ⟨k, off, none⟩) 0 cap) := by
  simp only [RelV, RelQ, RelC, RelP, RZ]
  exact .inr ⟨k, off, cap, rfl, by simp, by simp, by simp [RZss]⟩
theorem relC_of_relV {x : V} {v : Value} (hx : cellOk x = true) (r : RelV φ x v) : RelC φ x v := by
  cases x <;> first | exact r | simp [cellOk] at hx

/-- A cell that owns nothing. -/
theorem Dc.rel {x : V} {v : Value} {fp : Fp} (hl : ∀ n e, x ≠ .l n e) (hp : ∀ cs, x ≠ .lp cs) (d : Dc φ w x v fp) : RelC φ x v ∧ fp = [] := by
  rcases d with d | d
  · exact d
  · cases x with
    | l n e => exact absurd rfl (hl n e)
    | lp cs => exact absurd rfl (hp cs)
    | any => simp only [T] at d; exact ⟨by simp [RelC, RelP, RZ], d⟩
    | sl => simp [T] at d
    | ptr => simp [T] at d
    | agg => simp [T] at d
    | tup => simp [T] at d
    | _ => simp only [T] at d; exact ⟨relC_of_rz d.1, d.2⟩
theorem cellOk_not {x : V} (h : cellOk x = true) : (∀ n e, x ≠ .l n e) ∧ ∀ cs, x ≠ .lp cs :=
  ⟨fun n e q => (by subst q; cases h), fun cs q => (by subst q; cases h)⟩

theorem cellOk_one {x : V} {v : Value} (h : cellOk x = true) (r : RelC φ x v) : v.oneCell' = true ∧ v.cells = #[v] := by
  cases x with
  | s u =>
    simp only [RelC, RelP, RZ] at r
    obtain ⟨rfl, r⟩ := r
    cases v <;> first | (simp [one] at r; done) | exact ⟨rfl, rfl⟩
  | f n els =>
    simp only [RelC, RelP, RZ] at r
    rcases r with ⟨-, q, rfl⟩ | ⟨k, off, cap, rfl, -⟩ <;> exact ⟨rfl, rfl⟩
  | z => simp only [RelC, RelP, RZ] at r; obtain ⟨p, rfl⟩ := r; exact ⟨rfl, rfl⟩
  | pd cs => simp only [RelC, RelP, RZ] at r; obtain ⟨k, off, rfl, -⟩ := r; exact ⟨rfl, rfl⟩
  | sl b off len cap =>
    simp only [RelC, RelP] at r
    obtain ⟨p, n, -, -, r⟩ := r
    cases p with
    | none => obtain ⟨⟨q, rfl⟩, -⟩ := r; exact ⟨rfl, rfl⟩
    | some k => simp only at r; subst r; exact ⟨rfl, rfl⟩
  | ptr b i o => simp only [RelC, RelP] at r; obtain ⟨k, n, -, rfl⟩ := r; exact ⟨rfl, rfl⟩
  | fn f caps => obtain ⟨l, rfl, -⟩ := r; exact ⟨rfl, rfl⟩
  | _ => cases h

theorem all2_oneCell : ∀ {xs : List V} {vs : List Value}, xs.all cellOk = true → All2 (RelC φ) xs vs → ∀ v ∈ vs, v.oneCell' = true
  | [], [], _, _ => by simp
  | x :: xs, v :: vs, h, r => by
    simp only [List.all_cons, Bool.and_eq_true] at h
    intro u hu
    rcases List.mem_cons.1 hu with rfl | hu
    · exact (cellOk_one h.1 r.1).1
    · exact all2_oneCell h.2 r.2 u hu
  | [], _ :: _, _, r => r.elim
  | _ :: _, [], _, r => r.elim

theorem cellsOf_rel {x : V} {v : Value} {cs : List V} (h : cellsOf x = some cs) (r : RelV φ x v) : All2 (RelC φ) cs v.cells.toList ∧ cs.all cellOk = true := by
  cases x with
  | agg xs =>
    simp only [cellsOf] at h
    split at h
    · rename_i hx
      obtain rfl := Option.some.inj h
      obtain ⟨l, rfl, e⟩ := r
      exact ⟨e, hx⟩
    · cases h
  | tup vs => simp [cellsOf] at h
  | any => simp [cellsOf] at h
  | l n e => simp [cellsOf] at h
  | lp c => simp [cellsOf] at h
  | _ =>
    simp only [cellsOf, Option.some.injEq] at h
    subst h
    have r' := relC_of_relV (x := _) rfl r
    have := cellOk_one rfl r'
    rw [this.2]
    exact ⟨⟨r', trivial⟩, by simp [cellOk]⟩

/-! ### 2. The world behind a type's facts -/
variable {P : Program}
theorem run_sz {t : TypeId} {n : Nat} (h : tSz P t = some n) (w : World) : (sizeOf t).run P w = .ok n w := by
  unfold tSz at h
  cases hi : P.info? t with
  | none => rw [hi] at h; cases h
  | some i => rw [hi] at h; simp at h; subst h; simp [sizeOf, typeInfo, hi]
theorem run_agg {t : TypeId} {b : Bool} (h : tAgg P t = some b) (w : World) : (isAgg t).run P w = .ok b w := by
  unfold tAgg at h
  cases hu : P.underlying t with
  | none => rw [hu] at h; cases h
  | some d => rw [hu] at h; cases d <;> simp at h <;> subst h <;> simp [isAgg, underlying, hu]
theorem run_zero {t : TypeId} {z : List V} (h : tZ P t = some z) : ∃ v, (∀ w, (zeroValue t).run P w = .ok v w) ∧ v.cells.toList.map ofV1 = z ∧ v.cells.toList.all one = true ∧ (P.info? t).bind (·.zero) = some v := by
  unfold tZ at h
  cases hi : P.info? t with
  | none => rw [hi] at h; cases h
  | some i =>
    rw [hi] at h
    cases hz : i.zero with
    | none => simp [hz] at h
    | some v =>
      simp only [hz, Option.bind_some] at h
      split at h
      · rename_i h1
        exact ⟨v, fun w => by simp [zeroValue, typeInfo, hi, hz], Option.some.inj h, h1, by simp [hz]⟩
      · cases h
theorem underlying_of_tElem {t e : TypeId} (ht : tElem P t = some e) : P.underlying t = some (.slice e) := by
  unfold tElem at ht
  split at ht
  · rename_i e' hu; rw [hu]; rw [Option.some.inj ht]
  · cases ht
theorem run_elem {t e : TypeId} (ht : tElem P t = some e) (w : World) : (underlying t).run P w = .ok (.slice e) w := run_underlying (underlying_of_tElem ht) w
theorem tK_slice {t e : TypeId} (h : tK P t = .slice e) : P.underlying t = some (.slice e) := by
  unfold tK at h; split at h <;> first | (cases h; done) | (rename_i hu; cases h; exact hu)
theorem tK_string {t : TypeId} (h : tK P t = .string) : P.underlying t = some .string := by
  unfold tK at h; split at h <;> first | (cases h; done) | (rename_i hu; exact hu)
theorem tK_bool {t : TypeId} (h : tK P t = .bool) : P.underlying t = some .bool := by
  unfold tK at h; split at h <;> first | (cases h; done) | (rename_i hu; exact hu)
theorem tK_int {t : TypeId} {k : IntKind} (h : tK P t = .int k) : P.underlying t = some (.int k) := by
  unfold tK at h; split at h <;> first | (cases h; done) | (rename_i hu; cases h; exact hu)
theorem tK_ptr {t : TypeId} (h : tK P t = .ptr) : ∃ e, P.underlying t = some (.pointer e) := by
  unfold tK at h; split at h <;> first | (cases h; done) | (rename_i hu; exact ⟨_, hu⟩)
theorem isT_bool {k : TK} (h : isT k .bool) : k = .bool := by cases k <;> first | rfl | exact h.elim
theorem isT_string {k : TK} (h : isT k .string) : k = .string := by cases k <;> first | rfl | exact h.elim
theorem isT_ptr {k : TK} (h : isT k .ptr) : k = .ptr := by cases k <;> first | rfl | exact h.elim
theorem isT_slice {k : TK} {e : TypeId} (h : isT k (.slice e)) : ∃ e', k = .slice e' := by cases k <;> first | exact ⟨_, rfl⟩ | exact h.elim

theorem addr_add (blk off n : Nat) : (⟨blk, off, none⟩ : Addr).add n = ⟨blk, off + n, none⟩ := by
  unfold Addr.add; split <;> simp_all

/-! ### 3. Reading a block -/
theorem rdB_some {b i : Nat} {el : List V} (hr : rdB (h[b]?) i = some el) : ∃ B, h[b]? = some B ∧ B.live = true ∧ B.els[i]? = some el := by
  cases hb : h[b]? with
  | none => rw [hb] at hr; simp [rdB] at hr
  | some B =>
    rw [hb] at hr
    obtain ⟨els, n, cap, l⟩ := B
    cases l with
    | false => simp [rdB] at hr
    | true => exact ⟨_, rfl, rfl, hr⟩

theorem RelF.elem (R : RelF S w0 φ h w F) {b i k n : Nat} {el : List V} (hp : φ.m b = some (some k, n)) (hr : rdB (h[b]?) i = some el) :
    ∃ B c ty fq f, h[b]? = some B ∧ B.live = true ∧ B.els[i]? = some el ∧ B.n = n ∧ w.heap[k]? = some (.cells c ty (0, 0)) ∧ el.length = n ∧ F b = k :: fq ∧ Lss (Dc φ w) n B.els c.toList fq ∧
      Ls (Dc φ w) el (c.toList.drop (i * n)) f := by
  obtain ⟨B, hb, hl, he⟩ := rdB_some hr
  obtain ⟨p, h1, h2, h3, h4⟩ := R.place hb hl
  rw [hp] at h1; obtain ⟨rfl, rfl⟩ := Prod.mk.inj (Option.some.inj h1)
  obtain ⟨c, ty, fq, q1, q2, q3, q4, q5⟩ := h4
  obtain ⟨e1, f, e2, e3⟩ := q4.nth he
  exact ⟨B, c, ty, fq, f, hb, hl, he, rfl, q1, e1, q5, q4, e2⟩

theorem ls_all2 : ∀ {xs : List V} {vs : List Value} {f : Fp}, Ls (Dc φ w) xs vs f → xs.all cellOk = true → All2 (RelC φ) xs (vs.take xs.length)
  | [], vs, f, _, _ => by simp [All2]
  | x :: xs, vs, f, r, h => by
    simp only [Ls] at r
    obtain ⟨v, t, f1, f2, rfl, rfl, h3, h4⟩ := r
    simp only [List.all_cons, Bool.and_eq_true] at h
    have := cellOk_not h.1
    simp only [List.length_cons, List.take_succ_cons]
    exact ⟨(h3.rel this.1 this.2).1, ls_all2 h4 h.2⟩
theorem Ls.dropN {R : V → Value → Fp → Prop} : ∀ {xs : List V} {vs : List Value} {f : Fp} (j : Nat), Ls R xs vs f → ∃ g, Ls R (xs.drop j) (vs.drop j) g
  | xs, vs, f, 0, r => ⟨f, by simpa using r⟩
  | [], vs, f, j + 1, r => ⟨[], by simp [Ls]⟩
  | x :: xs, vs, f, j + 1, r => by
    simp only [Ls] at r
    obtain ⟨v, t, f1, f2, rfl, rfl, h3, h4⟩ := r
    simpa using Ls.dropN j h4
theorem Ls.takeN {R : V → Value → Fp → Prop} : ∀ {xs : List V} {vs : List Value} {f : Fp} (j : Nat), Ls R xs vs f → ∃ g, Ls R (xs.take j) vs g
  | xs, vs, f, 0, r => ⟨[], by simp [Ls]⟩
  | [], vs, f, j + 1, r => ⟨[], by simp [Ls]⟩
  | x :: xs, vs, f, j + 1, r => by
    simp only [Ls] at r
    obtain ⟨v, t, f1, f2, rfl, rfl, h3, h4⟩ := r
    obtain ⟨g, hg⟩ := Ls.takeN j h4
    exact ⟨f1 ++ g, by simp only [List.take_succ_cons, Ls]; exact ⟨v, t, f1, g, rfl, rfl, h3, hg⟩⟩

/-- Cells of a block are read as an aggregate. -/
theorem RelF.agg (R : RelF S w0 φ h w F) {b i o m k n : Nat} {cs : List V} (hp : φ.m b = some (some k, n)) (hr : rdN (rdB (h[b]?) i) o m = some cs) (hok : cs.all cellOk = true) :
    cs.length = m ∧ ∃ l : List Value, l.length = m ∧ All2 (RelC φ) cs l ∧ ∀ j v, l[j]? = some v → w.cell? ⟨k, i * n + o + j, none⟩ = some v := by
  cases he : rdB (h[b]?) i with
  | none => rw [he] at hr; simp [rdN] at hr
  | some el =>
    rw [he] at hr
    simp only [rdN] at hr
    split at hr
    · rename_i hle
      obtain rfl := Option.some.inj hr
      obtain ⟨B, c, ty, fq, f, _, _, _, _, hc, hel, _, _, hls⟩ := R.elem hp he
      have hlen : ((el.drop o).take m).length = m := by simp; omega
      obtain ⟨g1, r1⟩ := hls.dropN o
      obtain ⟨g2, r2⟩ := r1.takeN m
      have ra := ls_all2 r2 hok
      rw [hlen] at ra
      refine ⟨hlen, _, by have := ra.length; rw [hlen] at this; exact this.symm, ra, fun j v hv => ?_⟩
      rw [List.getElem?_take] at hv
      split at hv
      · rw [List.getElem?_drop, List.getElem?_drop] at hv
        simp only [World.cell?, hc]
        rw [← Array.getElem?_toList, ← hv, Nat.add_assoc]; rfl
      · cases hv
    · cases hr

theorem rdC_some {el : Option (List V)} {o : Nat} {x : V} (hr : rdC el o = some x) : ∃ l, el = some l ∧ l[o]? = some x := by
  cases el with
  | none => simp [rdC] at hr
  | some l => exact ⟨l, rfl, hr⟩

/-- A cell of a block is read. -/
theorem RelF.cell (R : RelF S w0 φ h w F) {b i o k n : Nat} {x : V} (hp : φ.m b = some (some k, n)) (hr : rdC (rdB (h[b]?) i) o = some x) :
    ∃ v f, w.cell? ⟨k, i * n + o, none⟩ = some v ∧ Dc φ w x v f := by
  obtain ⟨el, he, hx⟩ := rdC_some hr
  obtain ⟨B, c, ty, fq, f, _, _, _, _, hc, hel, _, _, hls⟩ := R.elem hp he
  obtain ⟨v, g, e1, e2, _⟩ := hls.nth hx
  rw [List.getElem?_drop] at e1
  exact ⟨v, g, by simp only [World.cell?, hc]; rw [← Array.getElem?_toList]; exact e1, e2⟩

/-! ### 4. What a cell owns becomes a block -/
theorem RelF.split (R : RelF S w0 φ h w F) {b k : Nat} {B' B1 : Blk} {p : Option Nat × Nat} {f1 f f2 : Fp} (hb : b < h.length) (hF : F b = k :: (f1 ++ f ++ f2))
    (hB : BlkRel (phiPush φ h.length p) w b B' (k :: (f1 ++ f2))) (hB1 : BlkRel (phiPush φ h.length p) w h.length B1 f) : Rel S w0 (phiPush φ h.length p) (h.set b B' ++ [B1]) w := by
  have he : Ext φ (phiPush φ h.length p) := phiPush_ext (R.dom _ (Nat.le_refl _))
  have hnd := R.nodup b
  rw [hF] at hnd
  have hsub : ∀ j, j ∈ k :: (f1 ++ f2) → j ∈ F b := fun j hj => by rw [hF]; simp at hj ⊢; rcases hj with q | q | q <;> simp [q]
  have hsub2 : ∀ j, j ∈ f → j ∈ F b := fun j hj => by rw [hF]; simp [hj]
  have hdis : ∀ j, j ∈ k :: (f1 ++ f2) → j ∉ f := fun j hj hf => by
    simp only [List.nodup_cons, List.nodup_append, List.mem_append, List.mem_cons] at hnd hj
    rcases hj with rfl | hj | hj
    · exact hnd.1 (.inl (.inr hf))
    · exact hnd.2.1.2.2 j hj j hf rfl
    · exact hnd.2.2.2 j (.inr hf) j hj rfl
  refine ⟨fun j => if j = b then k :: (f1 ++ f2) else if j = h.length then f else F j, R.kept, ?_, R.zok, ?_, ?_, ?_, ?_, ?_, ?_⟩
  · intro j hj; simp at hj; rw [phiPush_old (by omega)]; exact R.dom j (by omega)
  · intro j x o hx
    by_cases e : j = b
    · simp only [e, if_true] at hx; exact R.znot b x o (hsub x hx)
    · by_cases e2 : j = h.length
      · simp only [e2, if_true] at hx
        rw [if_neg (by omega)] at hx
        exact R.znot b x o (hsub2 x hx)
      · simp only [e, e2, if_false] at hx; exact R.znot j x o hx
  · intro j x hx
    by_cases e : j = b
    · simp only [e, if_true] at hx; exact R.mine b x (hsub x hx)
    · by_cases e2 : j = h.length
      · simp only [e2, if_true] at hx
        rw [if_neg (by omega)] at hx
        exact R.mine b x (hsub2 x hx)
      · simp only [e, e2, if_false] at hx; exact R.mine j x hx
  · intro j
    by_cases e : j = b
    · simp only [e, if_true]
      refine hnd.sublist (List.Sublist.cons_cons k ?_)
      exact List.Sublist.append (List.sublist_append_left f1 f) (List.Sublist.refl f2)
    · by_cases e2 : j = h.length
      · simp only [e2, if_true]
        rw [if_neg (by omega)]
        have := (List.nodup_cons.1 hnd).2
        exact (List.nodup_append.1 (List.nodup_append.1 this).1).2.1
      · simp only [e, e2, if_false]; exact R.nodup j
  · intro j j' x hx hx'
    by_cases e : j = b
    · simp only [e, if_true] at hx
      by_cases e' : j' = b
      · rw [e, e']
      · by_cases e2' : j' = h.length
        · simp only [e2', if_true] at hx'
          rw [if_neg (by omega)] at hx'
          exact absurd hx' (hdis x hx)
        · simp only [e', e2', if_false] at hx'
          exact e.trans (R.disj b j' x (hsub x hx) hx')
    · by_cases e2 : j = h.length
      · simp only [e2, if_true] at hx
        rw [if_neg (by omega)] at hx
        by_cases e' : j' = b
        · simp only [e', if_true] at hx'
          exact absurd hx (hdis x hx')
        · by_cases e2' : j' = h.length
          · rw [e2, e2']
          · simp only [e', e2', if_false] at hx'
            exact absurd (R.disj b j' x (hsub2 x hx) hx').symm e'
      · simp only [e, e2, if_false] at hx
        by_cases e' : j' = b
        · simp only [e', if_true] at hx'
          exact (R.disj j b x hx (hsub x hx')).trans e'.symm
        · by_cases e2' : j' = h.length
          · simp only [e2', if_true] at hx'
            rw [if_neg (by omega)] at hx'
            exact absurd (R.disj j b x hx (hsub2 x hx')) e
          · simp only [e', e2', if_false] at hx'; exact R.disj j j' x hx hx'
  · intro j hj
    simp at hj
    show (if j = b then _ else if j = h.length then _ else _) = _
    rw [if_neg (by omega), if_neg (by omega)]; exact R.out j (by omega)
  · intro j C hC
    by_cases e : j = b
    · subst e
      rw [List.getElem?_append_left (by simpa using hb)] at hC
      simp [hb] at hC; subst hC
      simp only [if_true]; exact hB
    · by_cases e2 : j = h.length
      · subst e2
        rw [List.getElem?_append_right (by simp)] at hC
        simp at hC; subst hC
        simp only [if_true]
        rw [if_neg (by omega)]; exact hB1
      · have hlt : j < h.length := by
          have := (List.getElem?_eq_some_iff.1 hC).1
          simp at this; omega
        rw [List.getElem?_append_left (by simpa using hlt), List.getElem?_set_ne (Ne.symm e)] at hC
        simp only [e, e2, if_false]
        exact (R.blk j C hC).keep he fun _ _ => rfl

theorem wrB_at {b i o : Nat} {B : Blk} {el : List V} {xs : List V} (hb : h[b]? = some B) (he : B.els[i]? = some el) : wrB (h[b]?) i o xs = { B with els := B.els.set i (wrL el o xs) } := by
  rw [hb]; obtain ⟨els, n, cap, l⟩ := B; simp only [wrB]; simp only at he; rw [he]; rfl

theorem set_same {α : Type} : ∀ {l : List α} {i : Nat} {a : α}, l[i]? = some a → l.set i a = l
  | [], _, _, h => by simp at h
  | x :: l, 0, a, h => by simp at h; simp [h]
  | x :: l, i + 1, a, h => by simp; exact set_same (by simpa using h)

/-- Unfolding what a cell owns: the cell becomes a reference to a block of its own. X: what block, what reference. -/
theorem RelF.unfold (R : RelF S w0 φ h w F) {b i o k n : Nat} {x : V} {X : Blk → V → Prop} (hp : φ.m b = some (some k, n)) (hr : rdC (rdB (h[b]?) i) o = some x)
    (hB : ∀ v f, Dc φ w x v f → ∃ (p : Option Nat × Nat) (B1 : Blk) (x' : V), X B1 x' ∧ RelC (phiPush φ h.length p) x' v ∧ BlkRel (phiPush φ h.length p) w h.length B1 f) :
    ∃ v B1 x' φ', X B1 x' ∧ w.cell? ⟨k, i * n + o, none⟩ = some v ∧ Rel S w0 φ' (wrH h b i o [x'] ++ [B1]) w ∧ ExtN S w0 h.length φ φ' ∧ RelC φ' x' v := by
  obtain ⟨el, he, hx⟩ := rdC_some hr
  obtain ⟨B, c, ty, fq, f0, hb, hl, hel, rfl, hc, hlen, hF, hlss, _⟩ := R.elem hp he
  have hblt : b < h.length := (List.getElem?_eq_some_iff.1 hb).1
  have ho : o < el.length := (List.getElem?_eq_some_iff.1 hx).1
  obtain ⟨pp, g1, g2, g3, g4⟩ := R.place hb hl
  rw [hp] at g1; obtain ⟨rfl, -⟩ := Prod.mk.inj (Option.some.inj g1)
  obtain ⟨c', ty', fq', y1, y2, y3, y4, y5⟩ := g4
  rw [hc] at y1; cases y1
  obtain ⟨f1, f, f2, x0, v, rfl, e3, hv, hd, hset⟩ := hlss.set hel ho
  rw [hx] at e3; cases e3
  obtain ⟨p, B1, x', hX, hrx, hB1⟩ := hB v f hd
  have hE : Ext φ (phiPush φ h.length p) := phiPush_ext (R.dom _ (Nat.le_refl _))
  refine ⟨v, B1, x', _, hX, by simp only [World.cell?, hc]; rw [← Array.getElem?_toList]; exact hv, ?_, phiPush_extN (Nat.le_refl _), hrx⟩
  unfold wrH
  rw [wrB_at hb hel]
  refine R.split (f1 := f1) (f := f) (f2 := f2) hblt hF ?_ hB1
  unfold BlkRel
  rw [if_pos (by exact hl)]
  refine ⟨some k, by rw [phiPush_old (by omega)]; exact hp, ?_, by simpa using g3, c, ty, f1 ++ f2, hc, y2, by simpa using y3, ?_, rfl⟩
  · intro e' he'
    simp only at he'
    rcases List.mem_or_eq_of_mem_set he' with q | q
    · exact g2 e' q
    · subst q; simp only [wrL, List.length_set]; exact hlen
  · simp only [wrL]
    have := hset (Dc (phiPush φ h.length p) w) (fun x v f _ d => d.mono hE fun _ _ => rfl) x' v [] (.leaf hrx)
    rw [set_same hv] at this
    simpa using this
end
end Go.W
