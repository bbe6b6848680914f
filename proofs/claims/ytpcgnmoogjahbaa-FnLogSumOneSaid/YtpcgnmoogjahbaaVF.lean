/- A layer for walking through code on abstract values and an abstract heap: its definitions and their soundness; no condition. -/
import Derived.Test.YtpcgnmoogjahbaaVE
import Derived.Laws.Strings
import Derived.Laws.Strings2
import Derived.Laws.Unary
import Derived.Laws.MakeOwn
set_option linter.unusedVariables false
set_option linter.unusedSimpArgs false
namespace Go.VL
open Go Go.RowKit

section
variable {P : Program}

theorem run_sz {t : TypeId} {n : Nat} (h : tSz P t = some n) (w : World) : (sizeOf t).run P w = .ok n w := by
  unfold tSz at h
  cases hi : P.info? t with
  | none => rw [hi] at h; cases h
  | some i => rw [hi] at h; simp at h; subst h; simp [sizeOf, typeInfo, hi]
theorem run_agg {t : TypeId} {b : Bool} (h : tAgg P t = some b) (w : World) : (isAgg t).run P w = .ok b w := by
  unfold tAgg at h
  cases hu : P.underlying t with
  | none => rw [hu] at h; cases h
  | some d => rw [hu] at h; cases d <;> simp at h <;> subst h <;> simp [isAgg, underlying, hu]
theorem run_zero {t : TypeId} {z : List Value} (h : tZero P t = some z) : ∃ v, (∀ w, (zeroValue t).run P w = .ok v w) ∧ v.cells.toList = z := by
  unfold tZero at h
  cases hi : P.info? t with
  | none => rw [hi] at h; cases h
  | some i =>
    rw [hi] at h
    cases hz : i.zero with
    | none => simp [hz] at h
    | some v => simp [hz] at h; exact ⟨v, fun w => by simp [zeroValue, typeInfo, hi, hz], h⟩

/-! ### The cells of a value -/
theorem cellOk_rel {φ : Phi} {x : V} {v : Value} (h : cellOk x = true) (r : RelC φ x v) : v.oneCell' = true ∧ v.cells = #[v] := by
  cases x with
  | s u =>
    simp only [RelC, conc] at r
    simp only [cellOk] at h
    rw [if_pos h] at r
    obtain rfl := Option.some.inj r
    cases u <;> first | (simp [one] at h; done) | exact ⟨rfl, rfl⟩
  | sl b off len cap =>
    simp only [RelC, conc] at r
    cases hp : place φ b off with
    | none => rw [hp] at r; cases r
    | some a => rw [hp] at r; obtain rfl := Option.some.inj r; exact ⟨rfl, rfl⟩
  | ptr b off =>
    simp only [RelC, conc] at r
    cases hp : place φ b off with
    | none => rw [hp] at r; cases r
    | some a => rw [hp] at r; obtain rfl := Option.some.inj r; exact ⟨rfl, rfl⟩
  | fn f caps =>
    simp only [RelC, conc] at r
    cases hp : places φ caps with
    | none => rw [hp] at r; cases r
    | some a => rw [hp] at r; obtain rfl := Option.some.inj r; exact ⟨rfl, rfl⟩
  | agg cs => cases h
  | tup vs => cases h
  | any => cases h

theorem all2_oneCell {φ : Phi} : ∀ {xs : List V} {vs : List Value}, xs.all cellOk = true → All2 (RelC φ) xs vs → ∀ v ∈ vs, v.oneCell' = true
  | [], [], _, _ => by simp
  | x :: xs, v :: vs, h, r => by
    simp only [List.all_cons, Bool.and_eq_true] at h
    intro u hu
    rcases List.mem_cons.1 hu with rfl | hu
    · exact (cellOk_rel h.1 r.1).1
    · exact all2_oneCell h.2 r.2 u hu
  | [], _ :: _, _, r => r.elim
  | _ :: _, [], _, r => r.elim

/-- What a value is stored as, on both sides. -/
theorem cellsOf_rel {φ : Phi} {x : V} {v : Value} {cs : List V} (h : cellsOf x = some cs) (r : RelV φ x v) :
    All2 (RelC φ) cs v.cells.toList ∧ cs.all cellOk = true := by
  cases x with
  | agg xs =>
    simp only [cellsOf] at h
    split at h
    · rename_i hx
      obtain rfl := Option.some.inj h
      obtain ⟨l, rfl, e⟩ := r
      exact ⟨e, hx⟩
    · cases h
  | tup vs => simp [cellsOf, cellOk] at h
  | any => simp [cellsOf, cellOk] at h
  | s u =>
    simp only [cellsOf] at h
    split at h
    · rename_i hx; obtain rfl := Option.some.inj h
      have := cellOk_rel (x := .s u) hx r
      rw [this.2]; exact ⟨⟨r, trivial⟩, by simp [hx]⟩
    · cases h
  | sl b o l c =>
    simp only [cellsOf] at h
    split at h
    · rename_i hx; obtain rfl := Option.some.inj h
      have := cellOk_rel (x := .sl b o l c) hx r
      rw [this.2]; exact ⟨⟨r, trivial⟩, by simp [hx]⟩
    · cases h
  | ptr b o =>
    simp only [cellsOf] at h
    split at h
    · rename_i hx; obtain rfl := Option.some.inj h
      have := cellOk_rel (x := .ptr b o) hx r
      rw [this.2]; exact ⟨⟨r, trivial⟩, by simp [hx]⟩
    · cases h
  | fn f c =>
    simp only [cellsOf] at h
    split at h
    · rename_i hx; obtain rfl := Option.some.inj h
      have := cellOk_rel (x := .fn f c) hx r
      rw [this.2]; exact ⟨⟨r, trivial⟩, by simp [hx]⟩
    · cases h

/-! ### Reading -/
theorem list_of_each {α : Type} : ∀ {n : Nat} {p : Nat → α → Prop}, (∀ j, j < n → ∃ c, p j c) → ∃ l : List α, l.length = n ∧ ∀ j v, l[j]? = some v → p j v
  | 0, _, _ => ⟨[], rfl, fun j v h => by simp at h⟩
  | n + 1, p, h => by
    obtain ⟨c, hc⟩ := h 0 (by omega)
    obtain ⟨l, h1, h2⟩ := list_of_each (n := n) (p := fun j => p (j + 1)) fun j hj => h (j + 1) (by omega)
    refine ⟨c :: l, by simp [h1], fun j v hv => ?_⟩
    cases j with
    | zero => simp at hv; subst hv; exact hc
    | succ j => exact h2 j v (by simpa using hv)

variable {B : Nat} {w0 : World} {φ : Phi} {h : H} {w : World}

theorem rd_cell (R : Rel B w0 φ h w) {b off : Nat} {x : V} (hb : b < h.n) (hr : h.rd b off = some x) :
    ∃ blk base, φ b = some (blk, base) ∧ ∃ c, w.cell? ⟨blk, base + off, none⟩ = some c ∧ RelC φ x c := by
  unfold H.rd at hr
  split at hr
  · cases hr
  · rename_i hd
    have hb' := R.blk b hb
    cases hs : (h.get b).st with
    | dead => exact absurd hs hd
    | ro =>
      simp only [BlkRel, hs] at hb'
      obtain ⟨blk, base, h1, h2⟩ := hb'
      exact ⟨blk, base, h1, h2 off x hr⟩
    | own =>
      obtain ⟨k, c, p1, p2, p3, p4, p6⟩ := own_place R hs hb
      obtain ⟨v, q1, q2⟩ := p6 off x hr
      refine ⟨k, 0, p1, v, ?_, q2⟩
      simp only [World.cell?, p3, Nat.zero_add]
      exact q1

theorem rdN_cells (R : Rel B w0 φ h w) {b off n : Nat} {cs : List V} (hb : b < h.n) (hr : h.rdN b off n = some cs) :
    cs.length = n ∧ ∃ l : List Value, l.length = n ∧ All2 (RelC φ) cs l ∧ ∀ blk base, φ b = some (blk, base) → ∀ j v, l[j]? = some v → w.cell? ⟨blk, base + off + j, none⟩ = some v := by
  unfold H.rdN at hr
  split at hr
  · cases hr
  · rename_i hd
    split at hr
    · rename_i hl
      obtain rfl := Option.some.inj hr
      have hlen : (((h.get b).cells.drop off).take n).length = n := by simp; omega
      refine ⟨hlen, ?_⟩
      have each : ∀ j, j < n → ∃ c, (∀ blk base, φ b = some (blk, base) → w.cell? ⟨blk, base + off + j, none⟩ = some c) ∧ ∀ x, (((h.get b).cells.drop off).take n)[j]? = some x → RelC φ x c := by
        intro j hj
        have hx : (h.get b).cells[off + j]? = some ((h.get b).cells[off + j]'(by omega)) := List.getElem?_eq_getElem _
        have hrd : h.rd b (off + j) = some ((h.get b).cells[off + j]'(by omega)) := by unfold H.rd; rw [if_neg hd]; exact hx
        obtain ⟨blk, base, q1, c, q2, q3⟩ := rd_cell R hb hrd
        refine ⟨c, fun blk' base' e => ?_, fun x e => ?_⟩
        · rw [q1] at e; obtain ⟨rfl, rfl⟩ := Prod.mk.inj (Option.some.inj e); rw [Nat.add_assoc]; exact q2
        · rw [List.getElem?_take, if_pos hj, List.getElem?_drop] at e
          rw [hx] at e; obtain rfl := Option.some.inj e; exact q3
      obtain ⟨l, hl1, hl2⟩ := list_of_each each
      refine ⟨l, hl1, ?_, ?_⟩
      · refine All2.of_get (by rw [hlen, hl1]) fun i x v e1 e2 => ?_
        exact (hl2 i v e2).2 x e1
      · intro blk base e j v hv
        exact (hl2 j v hv).1 blk base e
    · cases hr

theorem ptr_rel {b off : Nat} {v : Value} (r : RelV φ (.ptr b off) v) : ∃ blk base, φ b = some (blk, base) ∧ v = .pointer (some ⟨blk, base + off, none⟩) := by
  simp only [RelV, RelQ, RelC, conc, place] at r
  cases hp : φ b with
  | none => rw [hp] at r; cases r
  | some p => rw [hp] at r; exact ⟨p.1, p.2, rfl, (Option.some.inj r).symm⟩
theorem sl_rel {b off len cap : Nat} {v : Value} (r : RelV φ (.sl b off len cap) v) : ∃ blk base, φ b = some (blk, base) ∧ v = .slice (some ⟨blk, base + off, none⟩) len cap := by
  simp only [RelV, RelQ, RelC, conc, place] at r
  cases hp : φ b with
  | none => rw [hp] at r; cases r
  | some p => rw [hp] at r; exact ⟨p.1, p.2, rfl, (Option.some.inj r).symm⟩
theorem s_rel {u v : Value} (r : RelV φ (.s u) v) : v = u ∧ one u = true := by
  simp only [RelV, RelQ, RelC, conc] at r
  split at r
  · rename_i h1; exact ⟨(Option.some.inj r).symm, h1⟩
  · cases r
theorem mk_ptr {b off blk base : Nat} (h : φ b = some (blk, base)) : RelV φ (.ptr b off) (.pointer (some ⟨blk, base + off, none⟩)) := by
  simp [RelV, RelQ, RelC, conc, place, h]
theorem mk_sl {b off len cap blk base : Nat} (h : φ b = some (blk, base)) : RelV φ (.sl b off len cap) (.slice (some ⟨blk, base + off, none⟩) len cap) := by
  simp [RelV, RelQ, RelC, conc, place, h]
theorem mk_s {u : Value} (h : one u = true) : RelV φ (.s u) u := by simp [RelV, RelQ, RelC, conc, h]
theorem relV_of_relC {x : V} {v : Value} (r : RelC φ x v) : RelV φ x v := by
  cases x with
  | agg cs => cases r
  | tup cs => cases r
  | _ => exact r

end
end Go.VL
