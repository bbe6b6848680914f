/- A layer for walking through code on abstract values and an abstract heap: its definitions and their soundness; no condition. -/
import Derived.Test.YtpcgnmoogjahbaaVF
set_option linter.unusedVariables false
set_option linter.unusedSimpArgs false
namespace Go.VL
open Go Go.RowKit

/-- The operation has been carried out, and K holds of what it has come to. -/
def Did (P : Program) (o : Oper) (a : Act) (w : World) (B : Nat) (w0 : World) (φ : Phi) (K : V → H → Prop) : Prop :=
  ∃ φ' x h' w', Ext φ φ' ∧ Rel B w0 φ' h' w' ∧ K x h' ∧
    ((∃ v, (execOp a.eval o).run P w = .ok (.value v) w' ∧ RelV φ' x v) ∨ ((execOp a.eval o).run P w = .ok .skip w' ∧ x = .any))

section
variable {P : Program} {o : Oper} {a : Act} {w : World} {B : Nat} {w0 : World} {φ : Phi} {K : V → H → Prop} {h : H} {τ : Tau}

/-- It leaves the world as it is. -/
def DidV (P : Program) (o : Oper) (a : Act) (w : World) (φ : Phi) (K : V → Prop) : Prop :=
  ∃ x v, K x ∧ (execOp a.eval o).run P w = .ok (.value v) w ∧ RelV φ x v
/-- It does not look at the world. -/
def DidA (P : Program) (o : Oper) (a : Act) (φ : Phi) (K : V → Prop) : Prop :=
  ∃ x v, K x ∧ (∀ w, (execOp a.eval o).run P w = .ok (.value v) w) ∧ RelV φ x v

theorem did_val (R : Rel B w0 φ h w) {x : V} {v : Value} (hk : K x h) (hr : (execOp a.eval o).run P w = .ok (.value v) w) (r : RelV φ x v) : DidV P o a w φ fun x => K x h :=
  ⟨x, v, hk, hr, r⟩
theorem did_any {x : V} {v : Value} (hk : K x h) (hr : ∀ w, (execOp a.eval o).run P w = .ok (.value v) w) (r : RelV φ x v) : DidA P o a φ fun x => K x h :=
  ⟨x, v, hk, hr, r⟩
theorem DidA.v {K : V → Prop} (d : DidA P o a φ K) (w : World) : DidV P o a w φ K := by
  obtain ⟨x, v, h1, h2, h3⟩ := d; exact ⟨x, v, h1, h2 w, h3⟩
theorem DidV.did (R : Rel B w0 φ h w) (d : DidV P o a w φ fun x => K x h) : Did P o a w B w0 φ K := by
  obtain ⟨x, v, h1, h2, h3⟩ := d; exact ⟨φ, x, h, w, Ext.refl φ, R, h1, .inl ⟨v, h2, h3⟩⟩

theorem sem_move {x : Operand} (ho : o.op = .move x ∨ o.op = .assign x) (T : RelT φ τ a) (hx : opdOk x = true) (hk : K (ev τ x) h) : DidA P o a φ (fun x => K x h) := by
  refine did_any hk (v := a.eval x) (fun w => ?_) (ev_rel T x hx)
  unfold execOp; rcases ho with ho | ho <;> rw [ho] <;> rfl

theorem sem_pick {c x y : Operand} (ho : o.op = .pick c x y) (T : RelT φ τ a) (hc : opdOk c = true) (hx : opdOk x = true) (hy : opdOk y = true)
    (hw : opW P τ h (.pick c x y) K) : DidA P o a φ (fun x => K x h) := by
  unfold opW at hw
  simp only at hw
  have ec := ev_rel T c hc
  split at hw
  · rename_i t e
    rw [e] at ec
    obtain ⟨ec, -⟩ := s_rel ec
    refine did_any hw (v := if t then a.eval x else a.eval y) (fun w => ?_) ?_
    · simp [execOp, ho, ec, asBool]
    · cases t
      · exact ev_rel T y hy
      · exact ev_rel T x hx
  · exact hw.elim

theorem grown_alloc (w : World) (ob : Obj) : w.grownBy (w.alloc ob) none := World.grownBy_alloc w ob none
theorem heap_new (w : World) (ob : Obj) : (w.alloc ob).heap[w.heap.size]? = some ob := heap_alloc_new w ob

/-- A new block, made at once. -/
theorem did_new (R : Rel B w0 φ h w) {cells : List V} {c : Array Value} {e : TypeId} (hx : All2 (RelC φ) cells c.toList) {x : V} {v : Value}
    (hk : K x (h.push ⟨cells, c.size, e, .own⟩)) (hr : (execOp a.eval o).run P w = .ok (.value v) (w.alloc (.cells c e)))
    (hv : ∀ φ', φ' h.n = some (w.heap.size, 0) → RelV φ' x v) : Did P o a w B w0 φ K := by
  obtain ⟨R', E⟩ := R.alloc (cells := cells) (grown_alloc w (.cells c e)) (Nat.le_refl _) (heap_new w _) (fun i x hi => by
    obtain ⟨v, h1, h2⟩ := hx.get i x hi
    exact ⟨v, by simpa using h1, h2⟩)
  exact ⟨_, x, _, _, E, R', hk, .inl ⟨v, hr, hv _ (by unfold phiPush; rw [if_pos rfl])⟩⟩

theorem ptr_new {n blk : Nat} : ∀ φ' : Phi, φ' n = some (blk, 0) → RelV φ' (.ptr n 0) (.pointer (some ⟨blk, 0, none⟩)) := fun φ' e => by
  have := mk_ptr (φ := φ') (off := 0) e; simpa using this
theorem sl_new {n blk len cap : Nat} : ∀ φ' : Phi, φ' n = some (blk, 0) → RelV φ' (.sl n 0 len cap) (.slice (some ⟨blk, 0, none⟩) len cap) := fun φ' e => by
  have := mk_sl (φ := φ') (off := 0) (len := len) (cap := cap) e; simpa using this

theorem sem_alloc {e : TypeId} (ho : o.op = .alloc e) (R : Rel B w0 φ h w) (hw : opW P τ h (.alloc e) K) : Did P o a w B w0 φ K := by
  unfold opW at hw
  simp only at hw
  split at hw
  · rename_i z hz
    obtain ⟨h1, hk⟩ := hw
    obtain ⟨v, hv, rfl⟩ := run_zero (P := P) hz
    refine did_new R (c := v.cells) (e := e) (all2_s h1) (x := .ptr h.n 0) (v := .pointer (some ⟨w.heap.size, 0, none⟩)) ?_ ?_ ptr_new
    · simpa using hk
    · simp [execOp, ho, Instr.alloc, hv, newVar, newRow]
  · exact hw.elim

theorem sem_box {e : TypeId} {x : Operand} (ho : o.op = .box e x) (R : Rel B w0 φ h w) (T : RelT φ τ a) (hx : opdOk x = true) (hw : opW P τ h (.box e x) K) : Did P o a w B w0 φ K := by
  unfold opW at hw
  simp only at hw
  have ex := ev_rel T x hx
  split at hw
  · rename_i cs hc
    obtain ⟨q1, q2⟩ := cellsOf_rel hc ex
    refine did_new R (c := (a.eval x).cells) (e := e) q1 (x := .ptr h.n 0) (v := .pointer (some ⟨w.heap.size, 0, none⟩)) ?_ ?_ ptr_new
    · have := q1.length
      simp at this
      rw [← this]; exact hw
    · simp [execOp, ho, Instr.box, newVar, newRow]
  · exact hw.elim

theorem sem_load {t : TypeId} {x : Operand} (ho : o.op = .load t x) (R : Rel B w0 φ h w) (T : RelT φ τ a) (hx : opdOk x = true) (hw : opW P τ h (.load t x) K) : DidV P o a w φ (fun x => K x h) := by
  unfold opW at hw
  simp only at hw
  have ex := ev_rel T x hx
  split at hw
  · rename_i b off e
    rw [e] at ex
    obtain ⟨blk, base, hp, hv⟩ := ptr_rel ex
    split at hw
    · rename_i ha
      split at hw
      · rename_i n hn
        split at hw
        · rename_i cs hcs
          obtain ⟨hb, hk⟩ := hw
          obtain ⟨h1, l, h2, h3, h4⟩ := rdN_cells R hb hcs
          have hl := run_loadCells_list (P := P) w ⟨blk, base + off, none⟩ l (fun j v e => by
            rw [show (⟨blk, base + off, none⟩ : Addr).add j = ⟨blk, base + off + j, none⟩ from by unfold Addr.add; split <;> simp_all]
            exact h4 blk base hp j v e)
          refine did_val R hk (v := .agg l.toArray) ?_ ⟨l.toArray, rfl, by simpa using h3⟩
          simp [execOp, ho, Instr.loadAt, hv, Instr.sureAddr, loadVar, run_agg ha, run_sz hn, ← h2, hl]
        · exact hw.elim
      · exact hw.elim
    · rename_i ha
      split at hw
      · rename_i v hr
        obtain ⟨hb, hk⟩ := hw
        obtain ⟨blk', base', q1, c, q2, q3⟩ := rd_cell R hb hr
        rw [hp] at q1; obtain ⟨rfl, rfl⟩ := Prod.mk.inj (Option.some.inj q1)
        refine did_val R hk (v := c) ?_ (relV_of_relC q3)
        simp [execOp, ho, Instr.loadAt, hv, Instr.sureAddr, loadVar, run_agg ha, q2]
      · exact hw.elim
    · exact hw.elim
  · exact hw.elim

theorem wrL_get (φ : Phi) : ∀ (cs : List V) (off : Nat) (xs : List V) (c : List Value) (vs : List Value), All2 (RelC φ) xs vs → off + xs.length ≤ cs.length → cs.length ≤ c.length →
    (∀ (i : Nat) (x : V), cs[i]? = some x → ∃ v, c[i]? = some v ∧ RelC φ x v) →
    ∀ (i : Nat) (x : V), (wrL cs off xs)[i]? = some x → ∃ v, (c.take off ++ vs ++ c.drop (off + vs.length))[i]? = some v ∧ RelC φ x v
  | cs, off, [], c, [], _, _, _, hr, i, x, hi => by
    simp only [wrL] at hi
    simp only [List.length_nil, Nat.add_zero, List.append_nil, List.take_append_drop]
    exact hr i x hi
  | cs, off, y :: ys, c, u :: us, hy, hl, hlen, hr, i, x, hi => by
    simp only [wrL] at hi
    have hoc : off < c.length := by simp at hl; omega
    have ih := wrL_get φ (cs.set off y) (off + 1) ys (c.set off u) us hy.2 (by simp at hl ⊢; omega) (by simpa using hlen) (fun j z hz => by
      rw [List.getElem?_set] at hz ⊢
      by_cases e : off = j
      · subst e
        rw [if_pos rfl] at hz ⊢
        rw [if_pos (by simp at hl; omega)] at hz; rw [if_pos hoc]
        obtain rfl := Option.some.inj hz
        exact ⟨u, rfl, hy.1⟩
      · rw [if_neg e] at hz ⊢; exact hr j z hz) i x hi
    have key : (c.set off u).take (off + 1) ++ us ++ (c.set off u).drop (off + 1 + us.length) = c.take off ++ (u :: us) ++ c.drop (off + (u :: us).length) := by
      rw [List.take_set, List.drop_set_of_lt (by omega)]
      have : (List.take (off + 1) c).set off u = List.take off c ++ [u] := by
        rw [List.take_succ_eq_append_getElem hoc]
        rw [List.set_append_right _ _ (by simp; omega)]
        simp [Nat.min_eq_left (Nat.le_of_lt hoc)]
      rw [this]
      simp [Nat.add_assoc, Nat.add_comm 1]
    rw [key] at ih; exact ih
  | _, _, [], _, _ :: _, hy, _, _, _, _, _, _ => hy.elim
  | _, _, _ :: _, _, [], hy, _, _, _, _, _, _ => hy.elim

theorem wrL_length : ∀ (cs : List V) (off : Nat) (xs : List V), (wrL cs off xs).length = cs.length
  | _, _, [] => rfl
  | cs, off, x :: xs => by simp only [wrL]; rw [wrL_length]; simp

/-- Cells of a block of one's own are written. -/
theorem wr_sound (R : Rel B w0 φ h w) {b off : Nat} {xs : List V} {vs : List Value} (hb : b < h.n) (hs : (h.get b).st = .own) (hl : off + xs.length ≤ (h.get b).cells.length)
    (hx : All2 (RelC φ) xs vs) (hok : xs.all cellOk = true) {blk base : Nat} (hp : φ b = some (blk, base)) :
    base = 0 ∧ ∃ w', (storeCells ⟨blk, base + off, none⟩ vs 0).run P w = .ok () w' ∧ Rel B w0 φ (h.wr b off xs) w' := by
  obtain ⟨k, c, p1, p2, p3, p4, p6⟩ := own_place R hs hb
  rw [hp] at p1; obtain ⟨rfl, rfl⟩ := Prod.mk.inj (Option.some.inj p1)
  have hlen := hx.length
  -- the cells that are known lie within the block
  have hcl : (h.get b).cells.length ≤ c.size := by
    rcases Nat.lt_or_ge c.size (h.get b).cells.length with hlt | hge
    · obtain ⟨v, e, _⟩ := p6 c.size _ (List.getElem?_eq_getElem hlt)
      simp at e
    · exact hge
  have hst := run_storeCells_at P blk off (h.get b).ty vs 0 c w p3 (by omega) (all2_oneCell hok hx)
  refine ⟨rfl, _, by rw [Nat.zero_add]; exact hst, ?_⟩
  simp only [Nat.add_zero]
  have hh := setRow_heap w blk c (c.toList.take off ++ vs ++ c.toList.drop (off + vs.length)).toArray (h.get b).ty (0, 0) p3
  have R' := R.write (w' := w.setRow blk (c.toList.take off ++ vs ++ c.toList.drop (off + vs.length)).toArray) hb hs hp
    ⟨rfl, rfl, rfl, by simp, fun j _ hj => setRow_other w blk j _ (fun e => hj (by rw [e]))⟩ hh (cells := wrL (h.get b).cells off xs)
    (fun i x hi => by
      obtain ⟨v, e1, e2⟩ := wrL_get φ (h.get b).cells off xs c.toList vs hx hl (by simpa using hcl) (fun j z hz => by
        obtain ⟨v, e1, e2⟩ := p6 j z hz; exact ⟨v, by simpa using e1, e2⟩) i x hi
      exact ⟨v, by rw [List.getElem?_toArray]; exact e1, e2⟩)
  have hsz : (c.toList.take off ++ vs ++ c.toList.drop (off + vs.length)).toArray.size = (h.get b).total := by
    rw [← p4]; simp; omega
  rw [hsz] at R'
  have : ({ h.get b with cells := wrL (h.get b).cells off xs } : Blk) = ⟨wrL (h.get b).cells off xs, (h.get b).total, (h.get b).ty, .own⟩ := by rw [← hs]
  unfold H.wr
  rw [this]; exact R'

theorem sem_store {t : TypeId} {p x : Operand} (ho : o.op = .store t p x) (R : Rel B w0 φ h w) (T : RelT φ τ a) (hp : opdOk p = true) (hx : opdOk x = true)
    (hw : opW P τ h (.store t p x) K) : Did P o a w B w0 φ K := by
  unfold opW at hw
  simp only at hw
  have ep := ev_rel T p hp
  have ex := ev_rel T x hx
  split at hw
  · rename_i b off cs e1 e2
    obtain ⟨⟨hb, hs, hsz, hl⟩, hk⟩ := hw
    rw [e1] at ep
    obtain ⟨blk, base, hpb, hv⟩ := ptr_rel ep
    obtain ⟨q1, q2⟩ := cellsOf_rel e2 ex
    obtain ⟨h0, w', hst, R'⟩ := wr_sound (P := P) R hb hs hl q1 q2 hpb
    refine ⟨φ, .any, _, w', Ext.refl φ, R', hk, .inr ⟨?_, rfl⟩⟩
    have hlen : (a.eval x).cells.size = cs.length := by have := q1.length; simp at this; omega
    simp [execOp, ho, Instr.storeAt, hv, Instr.sureAddr, storeVar, run_sz hsz, hlen, hst]
  · exact hw.elim

end
end Go.VL
