/- A layer for walking through code on abstract values, told apart by who owns the memory: its definitions and their soundness; no condition. -/
import Derived.Test.YtpcgnmoogjahbaaW15
set_option linter.unusedVariables false
set_option linter.unusedSimpArgs false
namespace Go.W
open Go Go.RowKit

/-! ### 1. Other names for blocks -/
def rnP (r : Nat → Nat) : V → V
  | .sl b off len cap => .sl (r b) off len cap
  | .ptr b i o => .ptr (r b) i o
  | x => x
def rnC (r : Nat → Nat) : V → V
  | .fn f caps => .fn f (caps.map (rnP r))
  | x => rnP r x
def rnQ (r : Nat → Nat) : V → V
  | .agg cs => .agg (cs.map (rnC r))
  | x => rnC r x
def rnV (r : Nat → Nat) : V → V
  | .tup vs => .tup (vs.map (rnQ r))
  | x => rnQ r x
def rnB (r : Nat → Nat) (B : Blk) : Blk := ⟨B.els.map fun el => el.map (rnC r), B.n, B.cap, B.live⟩
/-- The old name of each new one. -/
def nm (l : List Nat) (big : Nat) (b : Nat) : Nat := (l[b]?).getD big

section
variable {S : Nat → Prop} {w0 w : World} {φ φ' : Phi} {h h' : H} {F : Nat → Fp} {n0 : Nat}

theorem all2_map {α β γ : Type} {R : γ → β → Prop} {f : α → γ} : ∀ {xs : List α} {ys : List β}, All2 R (xs.map f) ys ↔ All2 (fun x y => R (f x) y) xs ys
  | [], [] => Iff.rfl
  | [], _ :: _ => Iff.rfl
  | _ :: _, [] => Iff.rfl
  | x :: xs, y :: ys => by simp only [List.map_cons, All2, all2_map (xs := xs)]

theorem rz_not {z : Zm} {v : Value} {x : V} : RZ z x v → (∀ b off len cap, x ≠ .sl b off len cap) ∧ (∀ b i o, x ≠ .ptr b i o) := fun r =>
  ⟨fun b off len cap e => by subst e; simp [RZ] at r, fun b i o e => by subst e; simp [RZ] at r⟩

/-- From the old names to the new ones. -/
structure Rn (r : Nat → Nat) (φ φ' : Phi) : Prop where
  m : ∀ b p, φ.m (r b) = some p → φ'.m b = some p
  z : FLe φ.z φ'.z
theorem Rn.p {r : Nat → Nat} (hr : Rn r φ φ') {x : V} {v : Value} (h : RelP φ (rnP r x) v) : RelP φ' x v := by
  cases x with
  | sl b off len cap => simp only [rnP, RelP] at *; obtain ⟨p, n, h1, h2⟩ := h; exact ⟨p, n, hr.m _ _ h1, h2⟩
  | ptr b i o => simp only [rnP, RelP] at *; obtain ⟨k, n, h1, h2⟩ := h; exact ⟨k, n, hr.m _ _ h1, h2⟩
  | _ => simp only [rnP, RelP] at *; exact RZ.mono hr.z _ _ h
theorem Rn.c {r : Nat → Nat} (hr : Rn r φ φ') {x : V} {v : Value} (h : RelC φ (rnC r x) v) : RelC φ' x v := by
  cases x with
  | fn f caps =>
    simp only [rnC, RelC] at *
    obtain ⟨l, h1, h2⟩ := h
    exact ⟨l, h1, (all2_map.1 h2).mono fun _ _ => hr.p⟩
  | s a => exact hr.p (x := .s a) (v := v) h
  | f n e => exact hr.p (x := .f n e) (v := v) h
  | l n e => exact hr.p (x := .l n e) (v := v) h
  | lp c => exact hr.p (x := .lp c) (v := v) h
  | z => exact hr.p (x := .z) (v := v) h
  | sl b o l c => exact hr.p (x := .sl b o l c) (v := v) h
  | ptr b i o => exact hr.p (x := .ptr b i o) (v := v) h
  | pd c => exact hr.p (x := .pd c) (v := v) h
  | agg c => exact hr.p (x := .agg c) (v := v) h
  | tup c => exact hr.p (x := .tup c) (v := v) h
  | any => exact hr.p (x := .any) (v := v) h
theorem Rn.q {r : Nat → Nat} (hr : Rn r φ φ') {x : V} {v : Value} (h : RelQ φ (rnQ r x) v) : RelQ φ' x v := by
  cases x with
  | agg cs =>
    simp only [rnQ, RelQ] at *
    obtain ⟨l, h1, h2⟩ := h
    exact ⟨l, h1, (all2_map.1 h2).mono fun _ _ => hr.c⟩
  | s a => exact hr.c (x := .s a) (v := v) h
  | f n e => exact hr.c (x := .f n e) (v := v) h
  | l n e => exact hr.c (x := .l n e) (v := v) h
  | lp c => exact hr.c (x := .lp c) (v := v) h
  | z => exact hr.c (x := .z) (v := v) h
  | sl b o l c => exact hr.c (x := .sl b o l c) (v := v) h
  | ptr b i o => exact hr.c (x := .ptr b i o) (v := v) h
  | pd c => exact hr.c (x := .pd c) (v := v) h
  | fn f c => exact hr.c (x := .fn f c) (v := v) h
  | tup c => exact hr.c (x := .tup c) (v := v) h
  | any => exact hr.c (x := .any) (v := v) h
theorem Rn.v {r : Nat → Nat} (hr : Rn r φ φ') {x : V} {v : Value} (h : RelV φ (rnV r x) v) : RelV φ' x v := by
  cases x with
  | tup cs =>
    simp only [rnV, RelV] at *
    obtain ⟨l, h1, h2⟩ := h
    exact ⟨l, h1, (all2_map.1 h2).mono fun _ _ => hr.q⟩
  | s a => exact hr.q (x := .s a) (v := v) h
  | f n e => exact hr.q (x := .f n e) (v := v) h
  | l n e => exact hr.q (x := .l n e) (v := v) h
  | lp c => exact hr.q (x := .lp c) (v := v) h
  | z => exact hr.q (x := .z) (v := v) h
  | sl b o l c => exact hr.q (x := .sl b o l c) (v := v) h
  | ptr b i o => exact hr.q (x := .ptr b i o) (v := v) h
  | pd c => exact hr.q (x := .pd c) (v := v) h
  | fn f c => exact hr.q (x := .fn f c) (v := v) h
  | agg c => exact hr.q (x := .agg c) (v := v) h
  | any => exact hr.q (x := .any) (v := v) h

theorem t_rn {z : Zm} {r : Nat → Nat} {x : V} {v : Value} {fp : Fp} (h : T z w (rnC r x) v fp) : T z w x v fp ∨ ∃ f caps, x = .fn f caps := by
  cases x <;> first | exact .inl h | exact .inr ⟨_, _, rfl⟩

theorem Dc.rn {r : Nat → Nat} (hr : Rn r φ φ') {x : V} {v : Value} {fp : Fp} (h : Dc φ w (rnC r x) v fp) : Dc φ' w x v fp := by
  rcases h with ⟨h, rfl⟩ | h
  · exact .inl ⟨hr.c h, rfl⟩
  · by_cases hx : ∃ f caps, x = .fn f caps
    · obtain ⟨f, caps, rfl⟩ := hx
      simp only [rnC, T] at h
      exact .inl ⟨hr.c (x := .fn f caps) (relC_of_rz h.1), h.2⟩
    · rcases t_rn h with h | h
      · exact .inr (T.mono hr.z x v fp (fun _ _ => rfl) h)
      · exact absurd h hx

theorem ls_map {R R' : V → Value → Fp → Prop} {f : V → V} (hf : ∀ x v fp, R (f x) v fp → R' x v fp) : ∀ {xs : List V} {vs : List Value} {fp : Fp}, Ls R (xs.map f) vs fp → Ls R' xs vs fp
  | [], _, _, h => h
  | x :: xs, vs, fp, h => by
    simp only [List.map_cons, Ls] at *
    obtain ⟨v, t, f1, f2, rfl, rfl, h3, h4⟩ := h
    exact ⟨v, t, f1, f2, rfl, rfl, hf _ _ _ h3, ls_map hf h4⟩
theorem lss_map {R R' : V → Value → Fp → Prop} {f : V → V} (hf : ∀ x v fp, R (f x) v fp → R' x v fp) {n : Nat} : ∀ {els : List (List V)} {vs : List Value} {fp : Fp}, Lss R n (els.map fun el => el.map f) vs fp → Lss R' n els vs fp
  | [], _, _, h => h
  | x :: xs, vs, fp, h => by
    simp only [List.map_cons, Lss] at *
    obtain ⟨h0, f1, f2, rfl, h3, h4⟩ := h
    exact ⟨by simpa using h0, f1, f2, rfl, ls_map hf h3, lss_map hf h4⟩

/-- Blocks are let go, and the others take new names: l tells the old name of each. -/
def gcOk (l : List Nat) (h h' : H) (n0 : Nat) : Prop :=
  l.length = h'.length ∧ l.Nodup ∧ n0 ≤ h'.length ∧ (∀ i, i < n0 → l[i]? = some i) ∧ ∀ i B', h'[i]? = some B' → B'.live = true → ∃ B, h[nm l h.length i]? = some B ∧ B = rnB (nm l h.length) B'
theorem Arr.gc {l : List Nat} (hg : gcOk l h h' n0) : Arr n0 h h' fun x x' => x' = .any ∨ x = rnV (nm l h.length) x' := by
  intro S w0 φ w ⟨F, R⟩ hn
  obtain ⟨g1, g2, g3, g4, g5⟩ := hg
  let r := nm l h.length
  let φ' : Phi := ⟨fun i => if i < h'.length then φ.m (r i) else none, φ.z⟩
  have hrm : ∀ b p, φ.m (r b) = some p → φ'.m b = some p := fun b p hb => by
    show (if b < h'.length then φ.m (r b) else none) = some p
    by_cases q : b < h'.length
    · rw [if_pos q]; exact hb
    · have : r b = h.length := by
        show (l[b]?).getD h.length = h.length
        rw [List.getElem?_eq_none (by omega)]; rfl
      rw [this, R.dom _ (Nat.le_refl _)] at hb; cases hb
  have hr : Rn r φ φ' := ⟨hrm, FLe.refl _⟩
  have live : ∀ i : Nat, Decidable (∃ B : Blk, h'[i]? = some B ∧ B.live = true) := fun i => Classical.propDecidable _
  have F'def : ∃ F' : Nat → Fp, ∀ i : Nat, ((∃ B : Blk, h'[i]? = some B ∧ B.live = true) → F' i = F (r i)) ∧ (¬ (∃ B : Blk, h'[i]? = some B ∧ B.live = true) → F' i = []) :=
    ⟨fun i => @ite _ _ (live i) (F (r i)) [], fun i => ⟨fun q => by simp [q], fun q => by simp [q]⟩⟩
  obtain ⟨F', hF'⟩ := F'def
  have sub : ∀ i k, k ∈ F' i → (∃ B : Blk, h'[i]? = some B ∧ B.live = true) ∧ k ∈ F (r i) := fun i k hk => by
    by_cases q : ∃ B : Blk, h'[i]? = some B ∧ B.live = true
    · exact ⟨q, by rw [(hF' i).1 q] at hk; exact hk⟩
    · rw [(hF' i).2 q] at hk; simp at hk
  have inj : ∀ i j, i < h'.length → j < h'.length → r i = r j → i = j := by
    intro i j hi hj e
    have hi' : i < l.length := by omega
    have hj' : j < l.length := by omega
    have e1 : r i = l[i] := by show (l[i]?).getD h.length = _; rw [List.getElem?_eq_getElem hi']; rfl
    have e2 : r j = l[j] := by show (l[j]?).getD h.length = _; rw [List.getElem?_eq_getElem hj']; rfl
    rw [e1, e2] at e
    exact (List.getElem_inj g2).1 e
  refine ⟨φ', ⟨F', R.kept, fun b hb => ?_, R.zok, fun b k o hk => R.znot _ k o (sub b k hk).2, fun b k hk => R.mine _ k (sub b k hk).2, fun b => ?_, fun b b' k hk hk' => ?_, fun b hb => ?_, fun b B' hb => ?_⟩, ⟨fun b hb => ?_, FLe.refl _, fun _ _ _ e => .inl e⟩, g3, fun x x' v hm rv => ?_⟩
  · show (if b < h'.length then φ.m (r b) else none) = none
    rw [if_neg (by omega)]
  · by_cases q : ∃ B : Blk, h'[b]? = some B ∧ B.live = true
    · rw [(hF' b).1 q]; exact R.nodup _
    · rw [(hF' b).2 q]; exact List.nodup_nil
  · obtain ⟨⟨B, q1, _⟩, q2⟩ := sub b k hk
    obtain ⟨⟨B2, q3, _⟩, q4⟩ := sub b' k hk'
    exact inj b b' (List.getElem?_eq_some_iff.1 q1).1 (List.getElem?_eq_some_iff.1 q3).1 (R.disj _ _ k q2 q4)
  · exact (hF' b).2 fun ⟨B, q, _⟩ => by have := (List.getElem?_eq_some_iff.1 q).1; omega
  · by_cases hl : B'.live = true
    · rw [(hF' b).1 ⟨B', hb, hl⟩]
      obtain ⟨B, q1, rfl⟩ := g5 b B' hb hl
      have hlt : b < h'.length := (List.getElem?_eq_some_iff.1 hb).1
      have := R.blk _ _ q1
      unfold BlkRel at this ⊢
      rw [if_pos (by exact hl)] at this
      rw [if_pos hl]
      obtain ⟨p, k1, k2, k3, k4⟩ := this
      simp only [rnB] at k1 k2 k3 k4
      refine ⟨p, by show (if b < h'.length then φ.m (r b) else none) = _; rw [if_pos hlt]; exact k1, fun el he => ?_, by simpa using k3, ?_⟩
      · have := k2 (el.map (rnC r)) (List.mem_map.2 ⟨el, he, rfl⟩); simpa using this
      · cases p with
        | none => simp only at k4 ⊢; exact ⟨by simpa using k4.1, k4.2⟩
        | some k =>
          simp only at k4 ⊢
          obtain ⟨c, ty, fq, e1, e2, e3, e4, e5⟩ := k4
          exact ⟨c, ty, fq, e1, e2, by simpa using e3, lss_map (fun x v fp => Dc.rn hr) e4, e5⟩
    · rw [(hF' b).2 fun ⟨B, q, q'⟩ => by rw [hb] at q; cases q; exact hl q']
      unfold BlkRel; rw [if_neg hl]
  · show (if b < h'.length then φ.m (r b) else none) = φ.m b
    rw [if_pos (by omega)]
    have : r b = b := by show (l[b]?).getD h.length = b; rw [g4 b hb]; rfl
    rw [this]
  · rcases hm with rfl | rfl
    · exact relV_any
    · exact hr.v rv

end
end Go.W
