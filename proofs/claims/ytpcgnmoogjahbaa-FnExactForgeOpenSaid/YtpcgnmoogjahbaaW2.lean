/- A layer for walking through code on abstract values, told apart by who owns the memory: its definitions and their soundness; no condition. -/
import Derived.Test.YtpcgnmoogjahbaaW1
set_option linter.unusedVariables false
set_option linter.unusedSimpArgs false
namespace Go.W
open Go Go.RowKit

/-! ### 1. Memory that is owned -/
abbrev Fp := List Nat

mutual
/-- What a cell owns, and the blocks that it lies in. -/
def T (z : Zm) (w : World) : V → Value → Fp → Prop
  | .l n els, v, fp => (els = [] ∧ (∃ q, v = .slice q 0 0) ∧ fp = []) ∨ ∃ k c ty cap fq, v = .slice (some ⟨k, 0, none⟩) els.length cap ∧ w.heap[k]? = some (.cells c ty (0, 0)) ∧ c.size = cap * n ∧
      els.length ≤ cap ∧ els.length ≤ LIM ∧ fp = k :: fq ∧ Tss z w n els c.toList fq
  | .lp cs, v, fp => ∃ k c ty fq, v = .pointer (some ⟨k, 0, none⟩) ∧ w.heap[k]? = some (.cells c ty (0, 0)) ∧ c.size = cs.length ∧ fp = k :: fq ∧ Ts z w cs c.toList fq
  | .s a, v, fp => RZ z (.s a) v ∧ fp = []
  | .any, v, fp => fp = []
  | .z, v, fp => RZ z .z v ∧ fp = []
  | .f n els, v, fp => RZ z (.f n els) v ∧ fp = []
  | .pd cs, v, fp => RZ z (.pd cs) v ∧ fp = []
  | .fn f caps, v, fp => RZ z (.fn f caps) v ∧ fp = []
  | _, _, _ => False
def Ts (z : Zm) (w : World) : List V → List Value → Fp → Prop
  | [], vs, fp => fp = []
  | x :: xs, vs, fp => ∃ v r f1 f2, vs = v :: r ∧ fp = f1 ++ f2 ∧ T z w x v f1 ∧ Ts z w xs r f2
def Tss (z : Zm) (w : World) (n : Nat) : List (List V) → List Value → Fp → Prop
  | [], vs, fp => fp = []
  | el :: els, vs, fp => el.length = n ∧ ∃ f1 f2, fp = f1 ++ f2 ∧ Ts z w el vs f1 ∧ Tss z w n els (vs.drop n) f2
end

mutual
theorem T.mono {z z' : Zm} {w w' : World} (h : FLe z z') : ∀ (x : V) (v : Value) (fp : Fp), (∀ k ∈ fp, w'.heap[k]? = w.heap[k]?) → T z w x v fp → T z' w' x v fp
  | .l n els, v, fp, hw, r => by
    simp only [T] at *
    rcases r with r | ⟨k, c, ty, cap, fq, h1, h2, h3, h4, h5, rfl, h7⟩
    · exact .inl r
    · exact .inr ⟨k, c, ty, cap, fq, h1, by rw [hw k (by simp)]; exact h2, h3, h4, h5, rfl, Tss.mono h n els _ fq (fun j hj => hw j (by simp [hj])) h7⟩
  | .lp cs, v, fp, hw, r => by
    simp only [T] at *
    obtain ⟨k, c, ty, fq, h1, h2, h3, rfl, h5⟩ := r
    exact ⟨k, c, ty, fq, h1, by rw [hw k (by simp)]; exact h2, h3, rfl, Ts.mono h cs _ fq (fun j hj => hw j (by simp [hj])) h5⟩
  | .s a, v, fp, hw, r => by simp only [T] at *; exact ⟨RZ.mono h _ _ r.1, r.2⟩
  | .any, v, fp, hw, r => by simp only [T] at *; exact r
  | .z, v, fp, hw, r => by simp only [T] at *; exact ⟨RZ.mono h _ _ r.1, r.2⟩
  | .f n els, v, fp, hw, r => by simp only [T] at *; exact ⟨RZ.mono h _ _ r.1, r.2⟩
  | .pd cs, v, fp, hw, r => by simp only [T] at *; exact ⟨RZ.mono h _ _ r.1, r.2⟩
  | .fn f caps, v, fp, hw, r => by simp only [T] at *; exact ⟨RZ.mono h _ _ r.1, r.2⟩
  | .sl _ _ _ _, v, fp, hw, r => by simp [T] at r
  | .ptr _ _ _, v, fp, hw, r => by simp [T] at r
  | .agg _, v, fp, hw, r => by simp [T] at r
  | .tup _, v, fp, hw, r => by simp [T] at r
theorem Ts.mono {z z' : Zm} {w w' : World} (h : FLe z z') : ∀ (xs : List V) (vs : List Value) (fp : Fp), (∀ k ∈ fp, w'.heap[k]? = w.heap[k]?) → Ts z w xs vs fp → Ts z' w' xs vs fp
  | [], vs, fp, hw, r => by simp only [Ts] at *; exact r
  | x :: xs, vs, fp, hw, r => by
    simp only [Ts] at *
    obtain ⟨v, t, f1, f2, rfl, rfl, h3, h4⟩ := r
    exact ⟨v, t, f1, f2, rfl, rfl, T.mono h x v f1 (fun j hj => hw j (by simp [hj])) h3, Ts.mono h xs t f2 (fun j hj => hw j (by simp [hj])) h4⟩
theorem Tss.mono {z z' : Zm} {w w' : World} (h : FLe z z') (n : Nat) : ∀ (els : List (List V)) (vs : List Value) (fp : Fp), (∀ k ∈ fp, w'.heap[k]? = w.heap[k]?) → Tss z w n els vs fp → Tss z' w' n els vs fp
  | [], vs, fp, hw, r => by simp only [Tss] at *; exact r
  | el :: els, vs, fp, hw, r => by
    simp only [Tss] at *
    obtain ⟨h0, f1, f2, rfl, h3, h4⟩ := r
    exact ⟨h0, f1, f2, rfl, Ts.mono h el vs f1 (fun j hj => hw j (by simp [hj])) h3, Tss.mono h n els _ f2 (fun j hj => hw j (by simp [hj])) h4⟩
end

theorem T.of_rz {z : Zm} {w : World} {x : V} {v : Value} (r : RZ z x v) : T z w x v [] := by
  cases x <;> unfold T <;> first | exact ⟨r, rfl⟩ | rfl | (unfold RZ at r; exact r.elim)

/-! ### 2. Lists of cells -/
section
variable (R : V → Value → Fp → Prop)
def Ls : List V → List Value → Fp → Prop
  | [], vs, fp => fp = []
  | x :: xs, vs, fp => ∃ v r f1 f2, vs = v :: r ∧ fp = f1 ++ f2 ∧ R x v f1 ∧ Ls xs r f2
def Lss (n : Nat) : List (List V) → List Value → Fp → Prop
  | [], vs, fp => fp = []
  | el :: els, vs, fp => el.length = n ∧ ∃ f1 f2, fp = f1 ++ f2 ∧ Ls R el vs f1 ∧ Lss n els (vs.drop n) f2
end

theorem ts_ls {z : Zm} {w : World} : ∀ {xs : List V} {vs : List Value} {fp : Fp}, Ts z w xs vs fp ↔ Ls (T z w) xs vs fp
  | [], vs, fp => by simp only [Ts, Ls]
  | x :: xs, vs, fp => by simp only [Ts, Ls, ts_ls (xs := xs)]
theorem tss_lss {z : Zm} {w : World} {n : Nat} : ∀ {els : List (List V)} {vs : List Value} {fp : Fp}, Tss z w n els vs fp ↔ Lss (T z w) n els vs fp
  | [], vs, fp => by simp only [Tss, Lss]
  | x :: xs, vs, fp => by simp only [Tss, Lss, ts_ls, tss_lss (els := xs)]

section
variable {R R' : V → Value → Fp → Prop}
theorem Ls.mono : ∀ {xs : List V} {vs : List Value} {fp : Fp}, (∀ x v f, (∀ k ∈ f, k ∈ fp) → R x v f → R' x v f) → Ls R xs vs fp → Ls R' xs vs fp
  | [], vs, fp, _, h => by simp only [Ls] at *; exact h
  | x :: xs, vs, fp, hr, h => by
    simp only [Ls] at *
    obtain ⟨v, r, f1, f2, rfl, rfl, h3, h4⟩ := h
    exact ⟨v, r, f1, f2, rfl, rfl, hr x v f1 (fun k hk => by simp [hk]) h3, Ls.mono (fun x v f hf => hr x v f fun k hk => by simp [hf k hk]) h4⟩
theorem Lss.mono {n : Nat} : ∀ {els : List (List V)} {vs : List Value} {fp : Fp}, (∀ x v f, (∀ k ∈ f, k ∈ fp) → R x v f → R' x v f) → Lss R n els vs fp → Lss R' n els vs fp
  | [], vs, fp, _, h => by simp only [Lss] at *; exact h
  | x :: xs, vs, fp, hr, h => by
    simp only [Lss] at *
    obtain ⟨h0, f1, f2, rfl, h3, h4⟩ := h
    exact ⟨h0, f1, f2, rfl, Ls.mono (fun x v f hf => hr x v f fun k hk => by simp [hf k hk]) h3, Lss.mono (fun x v f hf => hr x v f fun k hk => by simp [hf k hk]) h4⟩
/-- Only the values that stand for the list count. -/
theorem Ls.pre : ∀ {xs : List V} {vs vs' : List Value} {fp : Fp}, (∀ j, j < xs.length → vs'[j]? = vs[j]?) → Ls R xs vs fp → Ls R xs vs' fp
  | [], vs, vs', fp, _, h => by simp only [Ls] at *; exact h
  | x :: xs, vs, vs', fp, hr, h => by
    simp only [Ls] at *
    obtain ⟨v, r, f1, f2, rfl, rfl, h3, h4⟩ := h
    have h0 := hr 0 (by simp)
    cases vs' with
    | nil => simp at h0
    | cons v' r' =>
      simp at h0; subst h0
      exact ⟨v', r', f1, f2, rfl, rfl, h3, Ls.pre (fun j hj => by have := hr (j + 1) (by simpa using hj); simpa using this) h4⟩
theorem Lss.pre {n : Nat} : ∀ {els : List (List V)} {vs vs' : List Value} {fp : Fp}, (∀ j, j < els.length * n → vs'[j]? = vs[j]?) → Lss R n els vs fp → Lss R n els vs' fp
  | [], vs, vs', fp, _, h => by simp only [Lss] at *; exact h
  | x :: xs, vs, vs', fp, hr, h => by
    simp only [Lss] at *
    obtain ⟨h0, f1, f2, rfl, h3, h4⟩ := h
    refine ⟨h0, f1, f2, rfl, Ls.pre (fun j hj => hr j ?_) h3, Lss.pre (fun j hj => ?_) h4⟩
    · rw [List.length_cons, Nat.succ_mul]; omega
    · rw [List.getElem?_drop, List.getElem?_drop]; exact hr (n + j) (by rw [List.length_cons, Nat.succ_mul]; omega)
theorem Ls.nth : ∀ {xs : List V} {vs : List Value} {fp : Fp} {j : Nat} {x : V}, Ls R xs vs fp → xs[j]? = some x → ∃ v f, vs[j]? = some v ∧ R x v f ∧ ∀ k ∈ f, k ∈ fp
  | [], _, _, j, x, _, h => by simp at h
  | y :: ys, vs, fp, 0, x, r, h => by
    simp at h; subst h; simp only [Ls] at r
    obtain ⟨v, t, f1, f2, rfl, rfl, h3, h4⟩ := r
    exact ⟨v, f1, rfl, h3, fun k hk => by simp [hk]⟩
  | y :: ys, vs, fp, j + 1, x, r, h => by
    simp only [Ls] at r
    obtain ⟨v, t, f1, f2, rfl, rfl, h3, h4⟩ := r
    obtain ⟨u, f, e1, e2, e3⟩ := Ls.nth h4 (by simpa using h)
    exact ⟨u, f, by simpa using e1, e2, fun k hk => by simp [e3 k hk]⟩
theorem Lss.nth {n : Nat} : ∀ {els : List (List V)} {vs : List Value} {fp : Fp} {i : Nat} {el : List V}, Lss R n els vs fp → els[i]? = some el → el.length = n ∧ ∃ f, Ls R el (vs.drop (i * n)) f ∧ ∀ k ∈ f, k ∈ fp
  | [], _, _, j, x, _, h => by simp at h
  | y :: ys, vs, fp, 0, x, r, h => by
    simp at h; subst h; simp only [Lss] at r
    obtain ⟨h0, f1, f2, rfl, h3, h4⟩ := r
    exact ⟨h0, f1, by simpa using h3, fun k hk => by simp [hk]⟩
  | y :: ys, vs, fp, j + 1, x, r, h => by
    simp only [Lss] at r
    obtain ⟨h0, f1, f2, rfl, h3, h4⟩ := r
    obtain ⟨e1, f, e2, e3⟩ := Lss.nth h4 (by simpa using h)
    exact ⟨e1, f, by rw [List.drop_drop] at e2; rw [show (j + 1) * n = n + j * n by rw [Nat.succ_mul]; omega]; exact e2, fun k hk => by simp [e3 k hk]⟩
/-- The cell (i, o). -/
theorem Lss.cell {n : Nat} {els : List (List V)} {vs : List Value} {fp : Fp} {i o : Nat} {el : List V} {x : V} (h : Lss R n els vs fp) (h1 : els[i]? = some el) (h2 : el[o]? = some x) :
    ∃ v f, vs[i * n + o]? = some v ∧ R x v f ∧ ∀ k ∈ f, k ∈ fp := by
  obtain ⟨e1, f, e2, e3⟩ := h.nth h1
  obtain ⟨v, g, e4, e5, e6⟩ := e2.nth h2
  exact ⟨v, g, by rw [List.getElem?_drop] at e4; exact e4, e5, fun k hk => e3 k (e6 k hk)⟩

theorem Ls.set : ∀ {xs : List V} {vs : List Value} {fp : Fp} {j : Nat}, Ls R xs vs fp → j < xs.length →
    ∃ f1 f f2 x v, fp = f1 ++ f ++ f2 ∧ xs[j]? = some x ∧ vs[j]? = some v ∧ R x v f ∧ ∀ (R' : V → Value → Fp → Prop), (∀ x v f, (∀ k ∈ f, k ∈ fp) → R x v f → R' x v f) → ∀ x' v' g, R' x' v' g → Ls R' (xs.set j x') (vs.set j v') (f1 ++ g ++ f2)
  | [], _, _, j, _, h => by simp at h
  | y :: ys, vs, fp, 0, r, h => by
    simp only [Ls] at r
    obtain ⟨v, t, f1, f2, rfl, rfl, h3, h4⟩ := r
    refine ⟨[], f1, f2, y, v, by simp, rfl, rfl, h3, fun R' hR x' v' g hg => ?_⟩
    simp only [List.set_cons_zero, Ls]
    exact ⟨v', t, g, f2, rfl, by simp, hg, h4.mono fun x v f hf => hR x v f fun k hk => by simp [hf k hk]⟩
  | y :: ys, vs, fp, j + 1, r, h => by
    simp only [Ls] at r
    obtain ⟨v, t, f1, f2, rfl, rfl, h3, h4⟩ := r
    obtain ⟨g1, f, g2, x, u, rfl, e3, e4, e5, e6⟩ := Ls.set h4 (by simpa using h)
    refine ⟨f1 ++ g1, f, g2, x, u, by simp, by simpa using e3, by simpa using e4, e5, fun R' hR x' v' g hg => ?_⟩
    simp only [List.set_cons_succ, Ls]
    exact ⟨v, _, f1, _, rfl, by simp, hR _ _ _ (fun k hk => by simp [hk]) h3, e6 R' (fun x v f hf => hR x v f fun k hk => List.mem_append_right _ (hf k hk)) x' v' g hg⟩

theorem Ls.len : ∀ {xs : List V} {vs : List Value} {fp : Fp}, Ls R xs vs fp → xs.length ≤ vs.length
  | [], _, _, _ => by simp
  | x :: xs, vs, fp, h => by
    simp only [Ls] at h
    obtain ⟨v, r, f1, f2, rfl, rfl, h3, h4⟩ := h
    have := h4.len
    simp; omega
theorem Lss.len {n : Nat} : ∀ {els : List (List V)} {vs : List Value} {fp : Fp}, Lss R n els vs fp → els.length * n ≤ vs.length
  | [], _, _, _ => by simp
  | x :: xs, vs, fp, h => by
    simp only [Lss] at h
    obtain ⟨h0, f1, f2, rfl, h3, h4⟩ := h
    have := h4.len
    have := h3.len
    simp [Nat.succ_mul] at *
    omega

theorem Lss.set {n : Nat} : ∀ {els : List (List V)} {vs : List Value} {fp : Fp} {i o : Nat} {el : List V}, Lss R n els vs fp → els[i]? = some el → o < el.length →
    ∃ f1 f f2 x v, fp = f1 ++ f ++ f2 ∧ el[o]? = some x ∧ vs[i * n + o]? = some v ∧ R x v f ∧ ∀ (R' : V → Value → Fp → Prop), (∀ x v f, (∀ k ∈ f, k ∈ fp) → R x v f → R' x v f) → ∀ x' v' g, R' x' v' g → Lss R' n (els.set i (el.set o x')) (vs.set (i * n + o) v') (f1 ++ g ++ f2)
  | [], _, _, i, o, el, _, h, _ => by simp at h
  | y :: ys, vs, fp, 0, o, el, r, h, ho => by
    simp at h; subst h
    simp only [Lss] at r
    obtain ⟨h0, f1, f2, rfl, h3, h4⟩ := r
    obtain ⟨g1, f, g2, x, u, rfl, e3, e4, e5, e6⟩ := h3.set ho
    refine ⟨g1, f, g2 ++ f2, x, u, by simp, e3, by simpa using e4, e5, fun R' hR x' v' g hg => ?_⟩
    simp only [List.set_cons_zero, Lss]
    refine ⟨by simpa using h0, g1 ++ g ++ g2, f2, by simp, by simpa using e6 R' (fun x v f hf => hR x v f fun k hk => List.mem_append_left _ (hf k hk)) x' v' g hg, ?_⟩
    have : (vs.set (0 * n + o) v').drop n = vs.drop n := by
      rw [List.drop_set_of_lt (by omega)]
    rw [this]; exact h4.mono fun x v f hf => hR x v f fun k hk => List.mem_append_right _ (hf k hk)
  | y :: ys, vs, fp, i + 1, o, el, r, h, ho => by
    simp only [Lss] at r
    obtain ⟨h0, f1, f2, rfl, h3, h4⟩ := r
    obtain ⟨g1, f, g2, x, u, rfl, e3, e4, e5, e6⟩ := Lss.set h4 (by simpa using h) ho
    have hi : (i + 1) * n + o = n + (i * n + o) := by rw [Nat.succ_mul]; omega
    refine ⟨f1 ++ g1, f, g2, x, u, by simp, e3, by rw [List.getElem?_drop] at e4; rw [hi]; exact e4, e5, fun R' hR x' v' g hg => ?_⟩
    simp only [List.set_cons_succ, Lss]
    refine ⟨h0, f1, g1 ++ g ++ g2, by simp, Ls.pre (fun j hj => ?_) (h3.mono fun x v f hf => hR x v f fun k hk => List.mem_append_left _ (hf k hk)), ?_⟩
    · rw [hi, List.getElem?_set_ne (by omega)]
    · rw [hi]
      have : (vs.set (n + (i * n + o)) v').drop n = (vs.drop n).set (i * n + o) v' := by
        rw [List.drop_set, if_neg (by omega), Nat.add_sub_cancel_left]
      rw [this]
      have h6 := e6 R' (fun x v f hf => hR x v f fun k hk => List.mem_append_right _ (hf k hk)) x' v' g hg
      exact h6

theorem Ls.append : ∀ {xs ys : List V} {vs us rest : List Value} {fp fq : Fp}, Ls R xs vs fp → xs.length = vs.length → Ls R ys us fq → Ls R (xs ++ ys) (vs ++ us ++ rest) (fp ++ fq)
  | [], ys, vs, us, rest, fp, fq, h, hl, h' => by
    simp only [Ls] at h; subst h
    have : vs = [] := List.eq_nil_of_length_eq_zero (by simpa using hl.symm)
    subst this
    simp only [List.nil_append]
    refine Ls.pre (fun j hj => ?_) h'
    rw [List.getElem?_append_left (by have := h'.len; omega)]
  | x :: xs, ys, vs, us, rest, fp, fq, h, hl, h' => by
    simp only [Ls] at h
    obtain ⟨v, r, f1, f2, rfl, rfl, h3, h4⟩ := h
    simp only [List.cons_append, Ls]
    exact ⟨v, r ++ us ++ rest, f1, f2 ++ fq, by simp, by simp, h3, h4.append (by simpa using hl) h'⟩
theorem Lss.append {n : Nat} : ∀ {xs ys : List (List V)} {vs us : List Value} {fp fq : Fp}, Lss R n xs vs fp → xs.length * n = vs.length → Lss R n ys us fq → Lss R n (xs ++ ys) (vs ++ us) (fp ++ fq)
  | [], ys, vs, us, fp, fq, h, hl, h' => by
    simp only [Lss] at h; subst h
    have : vs = [] := List.eq_nil_of_length_eq_zero (by simpa using hl.symm)
    subst this
    simpa using h'
  | x :: xs, ys, vs, us, fp, fq, h, hl, h' => by
    simp only [Lss] at h
    obtain ⟨h0, f1, f2, rfl, h3, h4⟩ := h
    have hlen : n ≤ vs.length := by rw [← hl, List.length_cons, Nat.succ_mul]; omega
    simp only [List.cons_append, Lss]
    refine ⟨h0, f1, f2 ++ fq, by simp, Ls.pre (fun j hj => by rw [List.getElem?_append_left (by omega)]) h3, ?_⟩
    rw [List.drop_append_of_le_length hlen]
    exact h4.append (by rw [List.length_drop, ← hl, List.length_cons, Nat.succ_mul]; omega) h'
theorem Lss.take {n : Nat} : ∀ {xs : List (List V)} {vs : List Value} {fp : Fp} (j : Nat), Lss R n xs vs fp → ∃ f1 f2, fp = f1 ++ f2 ∧ Lss R n (xs.take j) vs f1
  | xs, vs, fp, 0, h => ⟨[], fp, by simp, by simp [Lss]⟩
  | [], vs, fp, j + 1, h => by simp only [Lss] at h; subst h; exact ⟨[], [], rfl, by simp [Lss]⟩
  | x :: xs, vs, fp, j + 1, h => by
    simp only [Lss] at h
    obtain ⟨h0, f1, f2, rfl, h3, h4⟩ := h
    obtain ⟨g1, g2, rfl, e⟩ := Lss.take j h4
    refine ⟨f1 ++ g1, g2, by simp, ?_⟩
    simp only [List.take_succ_cons, Lss]
    exact ⟨h0, f1, g1, rfl, h3, e⟩
/-- Cells that own nothing. -/
theorem Ls.of_all2 {Q : V → Value → Prop} (hq : ∀ x v, Q x v → R x v []) : ∀ {xs : List V} {vs : List Value}, All2 Q xs vs → Ls R xs vs []
  | [], [], _ => by simp [Ls]
  | x :: xs, v :: vs, h => by simp only [Ls]; exact ⟨v, vs, [], [], rfl, rfl, hq _ _ h.1, Ls.of_all2 hq h.2⟩
  | [], _ :: _, e => e.elim
  | _ :: _, [], e => e.elim
end

end Go.W
