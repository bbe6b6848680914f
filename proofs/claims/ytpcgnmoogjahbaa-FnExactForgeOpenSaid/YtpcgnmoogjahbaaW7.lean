/- A layer for walking through code on abstract values, told apart by who owns the memory: its definitions and their soundness; no condition. -/
import Derived.Test.YtpcgnmoogjahbaaW6
import Derived.Laws.Strings
import Derived.Laws.Strings2
import Derived.Laws.Strings3
import Derived.Laws.Unary
import Derived.Laws.MakeOwn
import Derived.WalkSpells
set_option linter.unusedVariables false
set_option linter.unusedSimpArgs false
namespace Go.W
open Go Go.RowKit

/-- The operation has been carried out, and K holds of what it has come to. -/
def Did (P : Program) (o : Oper) (a : Act) (w : World) (S : Nat → Prop) (w0 : World) (φ : Phi) (n : Nat) (K : V → H → Prop) : Prop :=
  ∃ φ' x h' w', ExtN S w0 n φ φ' ∧ n ≤ h'.length ∧ Rel S w0 φ' h' w' ∧ K x h' ∧
    ((∃ v, (execOp a.eval o).run P w = .ok (.value v) w' ∧ RelV φ' x v) ∨ ((execOp a.eval o).run P w = .ok .skip w' ∧ x = .any))
/-- It does not look at the world. -/
def DidA (P : Program) (o : Oper) (a : Act) (φ : Phi) (K : V → Prop) : Prop :=
  ∃ x v, K x ∧ (∀ w, (execOp a.eval o).run P w = .ok (.value v) w) ∧ RelV φ x v

section
variable {C : Cx} {o : Oper} {a : Act} {w : World} {S : Nat → Prop} {w0 : World} {φ : Phi} {K : V → H → Prop} {h : H} {τ : Tau} {F : Nat → Fp}

theorem did_any {P : Program} {x : V} {v : Value} (hk : K x h) (hr : ∀ w, (execOp a.eval o).run P w = .ok (.value v) w) (r : RelV φ x v) : DidA P o a φ fun x => K x h := ⟨x, v, hk, hr, r⟩
theorem DidA.did {P : Program} (R : Rel S w0 φ h w) (d : DidA P o a φ fun x => K x h) : Did P o a w S w0 φ h.length K := by
  obtain ⟨x, v, h1, h2, h3⟩ := d; exact ⟨φ, x, h, w, ExtN.refl .., Nat.le_refl _, R, h1, .inl ⟨v, h2 w, h3⟩⟩
theorem did_val {P : Program} (R : Rel S w0 φ h w) {x : V} {v : Value} (hk : K x h) (hr : (execOp a.eval o).run P w = .ok (.value v) w) (r : RelV φ x v) : Did P o a w S w0 φ h.length K :=
  ⟨φ, x, h, w, ExtN.refl .., Nat.le_refl _, R, hk, .inl ⟨v, hr, r⟩⟩

theorem sem_move {x : Operand} (ho : o.op = .move x ∨ o.op = .assign x) (G : RelG C φ.z) (T : RelT φ τ a) (hx : opdOk x = true) (hk : K (ev C τ x) h) : DidA C.P o a φ (fun x => K x h) := by
  refine did_any hk (v := a.eval x) (fun w => ?_) (ev_rel G T x hx)
  unfold execOp; rcases ho with ho | ho <;> rw [ho] <;> rfl

theorem sem_pick {c x y : Operand} (ho : o.op = .pick c x y) (G : RelG C φ.z) (T : RelT φ τ a) (hc : opdOk c = true) (hx : opdOk x = true) (hy : opdOk y = true)
    (hw : pickK K h (ev C τ x) (ev C τ y) (ev C τ c)) : DidA C.P o a φ (fun x => K x h) := by
  have ec := ev_rel G T c hc
  unfold pickK at hw
  split at hw
  · rename_i t e
    rw [e] at ec
    have ec := relV_bool ec
    refine did_any hw (v := if t then a.eval x else a.eval y) (fun w => ?_) ?_
    · simp [execOp, ho, ec, asBool]
    · cases t
      · exact ev_rel G T y hy
      · exact ev_rel G T x hx
  · exact hw.elim

theorem grown_alloc (w : World) (ob : Obj) : w.grownBy (w.alloc ob) none := World.grownBy_alloc w ob none
theorem heap_new (w : World) (ob : Obj) : (w.alloc ob).heap[w.heap.size]? = some ob := heap_alloc_new w ob

theorem lss_all2 {n : Nat} : ∀ {els : List (List V)} {vs : List Value}, (∀ el ∈ els, el.length = n) → All2 (RelC φ) els.flatten vs → Lss (Dc φ w) n els vs []
  | [], vs, _, _ => by simp [Lss]
  | el :: els, vs, hn, r => by
    have hl := hn el (by simp)
    simp only [List.flatten_cons] at r
    have key : ∀ {xs ys : List V} {vs : List Value}, All2 (RelC φ) (xs ++ ys) vs → All2 (RelC φ) xs (vs.take xs.length) ∧ All2 (RelC φ) ys (vs.drop xs.length) := by
      intro xs
      induction xs with
      | nil => intro ys vs r; simpa [All2] using r
      | cons x xs ih =>
        intro ys vs r
        cases vs with
        | nil => exact r.elim
        | cons v vs =>
          obtain ⟨h1, h2⟩ := ih r.2
          exact ⟨⟨r.1, h1⟩, h2⟩
    obtain ⟨h1, h2⟩ := key r
    simp only [Lss]
    refine ⟨hl, [], [], rfl, ?_, ?_⟩
    · have := Ls.of_all2 (R := Dc φ w) (fun x v q => Dc.leaf q) h1
      refine Ls.pre (fun j hj => ?_) this
      rw [List.getElem?_take, if_pos hj]
    · rw [hl] at h2
      exact lss_all2 (fun el he => hn el (by simp [he])) h2

/-- A new block, made at once. -/
theorem did_new {P : Program} (R : Rel S w0 φ h w) {els : List (List V)} {n cap : Nat} {c : Array Value} {e : TypeId} (hn : ∀ el ∈ els, el.length = n) (hx : All2 (RelC φ) els.flatten (c.toList.take (els.length * n))) (hcap : c.size = cap * n)
    (hle : els.length ≤ cap) (hlim : els.length ≤ LIM) {x : V} {v : Value}
    (hk : K x (h ++ [⟨els, n, cap, true⟩])) (hr : (execOp a.eval o).run P w = .ok (.value v) (w.alloc (.cells c e)))
    (hv : ∀ φ' : Phi, φ'.m h.length = some (some w.heap.size, n) → RelV φ' x v) : Did P o a w S w0 φ h.length K := by
  obtain ⟨F, R⟩ := R
  have hls : Lss (Dc φ w) n els c.toList [] := by
    refine Lss.pre (fun j hj => ?_) (lss_all2 (φ := φ) (w := w) hn hx)
    rw [List.getElem?_take, if_pos hj]
  have R' := R.alloc (grown_alloc w (.cells c e)) (Nat.le_refl _) (heap_new w _) hcap hle hlim hn hls
  exact ⟨_, x, _, _, phiPush_extN (Nat.le_refl _), by simp, R', hk, .inl ⟨v, hr, hv _ phiPush_new⟩⟩

theorem ptr_new {n blk k : Nat} : ∀ φ' : Phi, φ'.m n = some (some blk, k) → RelV φ' (.ptr n 0 0) (.pointer (some ⟨blk, 0, none⟩)) := fun φ' e => by
  have := mk_ptr (φ := φ') (i := 0) (o := 0) e; simpa using this
theorem sl_new {n blk len cap k : Nat} (hl : len ≤ cap) : ∀ φ' : Phi, φ'.m n = some (some blk, k) → RelV φ' (.sl n 0 len cap) (.slice (some ⟨blk, 0, none⟩) len cap) := fun φ' e => by
  have := mk_sl (φ := φ') (off := 0) (len := len) (cap := cap) e hl; simpa using this

theorem take_all {α : Type} {l : List α} {n : Nat} (h : n = l.length) : l.take n = l := by rw [h, List.take_length]

theorem sem_alloc {e : TypeId} (ho : o.op = .alloc e) (R : Rel S w0 φ h w) (hw : allocK K h (tZ C.P e)) : Did C.P o a w S w0 φ h.length K := by
  unfold allocK at hw
  split at hw
  · rename_i z hz
    obtain ⟨v, hv, rfl, h1, _⟩ := run_zero hz
    refine did_new R (els := [v.cells.toList.map ofV1]) (n := v.cells.size) (cap := 1) (c := v.cells) (e := e) (by simp) ?_ (by simp) (by simp) (by simp [LIM]) (x := .ptr h.length 0 0) (v := .pointer (some ⟨w.heap.size, 0, none⟩)) ?_ ?_ ptr_new
    · rw [take_all (by simp)]; simpa using all2_ofV1 h1
    · simpa using hw
    · simp [execOp, ho, Instr.alloc, hv, newVar, newRow]
  · exact hw.elim

theorem sem_box {e : TypeId} {x : Operand} (ho : o.op = .box e x) (R : Rel S w0 φ h w) (G : RelG C φ.z) (T : RelT φ τ a) (hx : opdOk x = true) (hw : boxK K h (cellsOf (ev C τ x))) : Did C.P o a w S w0 φ h.length K := by
  have ex := ev_rel G T x hx
  unfold boxK at hw
  split at hw
  · rename_i cs hc
    obtain ⟨q1, q2⟩ := cellsOf_rel hc ex
    have hl := q1.length
    simp at hl
    refine did_new R (els := [cs]) (n := cs.length) (cap := 1) (c := (a.eval x).cells) (e := e) (by simp) ?_ (by simp [hl]) (by simp) (by simp [LIM]) (x := .ptr h.length 0 0) (v := .pointer (some ⟨w.heap.size, 0, none⟩)) hw ?_ ptr_new
    · rw [take_all (by simp [hl])]; simpa using q1
    · simp [execOp, ho, Instr.box, newVar, newRow]
  · exact hw.elim

/-! ### Loads -/
theorem rel_place {b i o k n : Nat} {x : V} (R : RelF S w0 φ h w F) (hp : φ.m b = some (some k, n)) (hr : rdC (rdB (h[b]?) i) o = some x) (h1 : ∀ m e, x ≠ .l m e) (h2 : ∀ cs, x ≠ .lp cs) :
    ∃ v, w.cell? ⟨k, i * n + o, none⟩ = some v ∧ RelC φ x v := by
  obtain ⟨v, f, e1, e2⟩ := R.cell hp hr
  exact ⟨v, e1, (e2.rel h1 h2).1⟩

theorem sem_load {t : TypeId} {x : Operand} (ho : o.op = .load t x) (R : Rel S w0 φ h w) (G : RelG C φ.z) (T : RelT φ τ a) (hx : opdOk x = true) (hw : ldK C K h t (ev C τ x)) : Did C.P o a w S w0 φ h.length K := by
  have ex := ev_rel G T x hx
  obtain ⟨F, R⟩ := R
  unfold ldK at hw
  split at hw
  · rename_i b i ob e
    rw [e] at ex
    obtain ⟨k, n, hp, hv⟩ := ptr_rel ex
    unfold ldT at hw
    split at hw
    · rename_i m ha hm
      unfold ldA at hw
      split at hw
      · rename_i cs hcs
        obtain ⟨hok, hk⟩ := hw
        obtain ⟨h1, l, h2, h3, h4⟩ := R.agg hp hcs hok
        have hl := run_loadCells_list (P := C.P) w ⟨k, i * n + ob, none⟩ l (fun j v e => by rw [addr_add]; exact h4 j v e)
        refine did_val ⟨F, R⟩ hk (v := .agg l.toArray) ?_ ⟨l.toArray, rfl, by simpa using h3⟩
        simp [execOp, ho, Instr.loadAt, hv, Instr.sureAddr, loadVar, run_agg ha, run_sz hm, ← h2, hl]
      · exact hw.elim
    · rename_i ha
      have hrun : ∀ c, w.cell? ⟨k, i * n + ob, none⟩ = some c → (execOp a.eval o).run C.P w = .ok (.value c) w := fun c hc => by
        simp [execOp, ho, Instr.loadAt, hv, Instr.sureAddr, loadVar, run_agg ha, hc]
      unfold ldV at hw
      split at hw
      · -- a slice that the cell owns
        rename_i m els hcell
        obtain ⟨v, B1, x', φ', ⟨cap, hle, rfl, rfl⟩, hc, R', E, hrx⟩ := R.unfold (X := fun B1 x' => ∃ cap, els.length ≤ cap ∧ B1 = ⟨els, m, cap, true⟩ ∧ x' = .sl h.length 0 els.length cap) hp hcell (by
          intro v f hd
          have hT : Go.W.T φ.z w (.l m els) v f := by
            rcases hd with ⟨q, -⟩ | q
            · simp [RelC, RelP, RZ] at q
            · exact q
          simp only [Go.W.T] at hT
          rcases hT with ⟨rfl, ⟨q, rfl⟩, rfl⟩ | ⟨k', c1, ty1, cap, fq1, rfl, q2, q3, q4, q5, rfl, q7⟩
          · refine ⟨(none, m), _, _, ⟨0, Nat.le_refl _, rfl, rfl⟩, relC_of_relV rfl (mk_nil phiPush_new), ?_⟩
            unfold BlkRel; rw [if_pos rfl]; exact ⟨none, phiPush_new, by simp, by simp, rfl, rfl, rfl⟩
          · refine ⟨(some k', m), _, _, ⟨cap, q4, rfl, rfl⟩, relC_of_relV rfl (sl_new q4 _ phiPush_new), ?_⟩
            have hl := tss_lss.1 q7
            have hn : ∀ el ∈ els, el.length = m := fun el hel => by
              obtain ⟨i, hi⟩ := List.mem_iff_getElem?.1 hel
              exact (hl.nth hi).1
            unfold BlkRel; rw [if_pos rfl]
            exact ⟨some k', phiPush_new, hn, q5, c1, ty1, fq1, q2, q3, q4, hl.mono fun x v f _ d => .inr (Go.W.T.mono (FLe.refl _) x v f (fun _ _ => rfl) d), rfl⟩)
        exact ⟨φ', _, _, w, E, by simp [wrH], R', hw cap hle, .inl ⟨v, hrun v hc, relV_of_relC hrx⟩⟩
      · -- a pointer that the cell owns
        rename_i cs hcell
        obtain ⟨v, B1, x', φ', ⟨rfl, rfl⟩, hc, R', E, hrx⟩ := R.unfold (X := fun B1 x' => B1 = ⟨[cs], cs.length, 1, true⟩ ∧ x' = .ptr h.length 0 0) hp hcell (by
          intro v f hd
          have hT : Go.W.T φ.z w (.lp cs) v f := by
            rcases hd with ⟨q, -⟩ | q
            · simp [RelC, RelP, RZ] at q
            · exact q
          simp only [Go.W.T] at hT
          obtain ⟨k', c1, ty1, fq1, rfl, q2, q3, rfl, q7⟩ := hT
          refine ⟨(some k', cs.length), _, _, ⟨rfl, rfl⟩, relC_of_relV rfl (ptr_new _ phiPush_new), ?_⟩
          have hl := ts_ls.1 q7
          unfold BlkRel; rw [if_pos rfl]
          refine ⟨some k', phiPush_new, by simp, by simp [LIM], c1, ty1, fq1, q2, by simp [q3], by simp, ?_, rfl⟩
          simp only [Lss]
          exact ⟨trivial, fq1, [], by simp, hl.mono fun x v f _ d => .inr (Go.W.T.mono (FLe.refl _) x v f (fun _ _ => rfl) d), rfl⟩)
        exact ⟨φ', _, _, w, E, by simp [wrH], R', hw, .inl ⟨v, hrun v hc, relV_of_relC hrx⟩⟩
      · rename_i v hl hlp hcell
        obtain ⟨c, q1, q2⟩ := rel_place R hp hcell (fun m e q => hl m e q) (fun cs q => hlp cs q)
        exact did_val ⟨F, R⟩ hw (hrun c q1) (relV_of_relC q2)
      · exact hw.elim
    · exact hw.elim
  · rename_i cs e
    rw [e] at ex
    obtain ⟨k, off, hv, hz⟩ := pd_rel ex
    unfold ldF at hw
    split at hw
    · rename_i m ha hm
      unfold ldA at hw
      split at hw
      · rename_i cs' hcs
        obtain ⟨hok, hk⟩ := hw
        simp only [rdN] at hcs
        split at hcs
        · rename_i hle
          obtain rfl := Option.some.inj hcs
          simp only [List.drop_zero] at hk hok
          have hz' := RZs.take m hz
          have hlen : (cs.take m).length = m := by simp; omega
          have each : ∃ l : List Value, All2 (RelC φ) (cs.take m) l ∧ ∀ j v, l[j]? = some v → w.cell? ⟨k, off + j, none⟩ = some v := by
            clear hk hok hle hlen
            generalize cs.take m = ds at hz'
            clear hz hv
            induction ds generalizing off with
            | nil => exact ⟨[], trivial, fun j v h => by simp at h⟩
            | cons y ys ih =>
              simp only [RZs] at hz'
              obtain ⟨⟨c, h1, h2⟩, h3⟩ := hz'
              obtain ⟨l, e1, e2⟩ := ih (off + 1) h3
              refine ⟨c :: l, ⟨relC_of_rz h2, e1⟩, fun j v h => ?_⟩
              cases j with
              | zero => simp at h; subst h; exact R.zok _ _ _ h1
              | succ j => have := e2 j v (by simpa using h); rw [show off + (j + 1) = off + 1 + j by omega]; exact this
          obtain ⟨l, h3, h4⟩ := each
          have h2 : l.length = m := by rw [← h3.length]; exact hlen
          have hl := run_loadCells_list (P := C.P) w ⟨k, off, none⟩ l (fun j v e => by rw [addr_add]; exact h4 j v e)
          refine did_val ⟨F, R⟩ hk (v := .agg l.toArray) ?_ ⟨l.toArray, rfl, by simpa using h3⟩
          simp [execOp, ho, Instr.loadAt, hv, Instr.sureAddr, loadVar, run_agg ha, run_sz hm, ← h2, hl]
        · cases hcs
      · exact hw.elim
    · rename_i ha
      unfold ldC at hw
      split at hw
      · rename_i v hc
        obtain ⟨c, h1, h2⟩ := hz.nth hc
        have := R.zok _ _ _ h1
        exact did_val ⟨F, R⟩ hw (v := c) (by simp only [Nat.add_zero] at this; simp [execOp, ho, Instr.loadAt, hv, Instr.sureAddr, loadVar, run_agg ha, this]) (relV_of_rz h2)
      · exact hw.elim
    · exact hw.elim
  · exact hw.elim

end
end Go.W
