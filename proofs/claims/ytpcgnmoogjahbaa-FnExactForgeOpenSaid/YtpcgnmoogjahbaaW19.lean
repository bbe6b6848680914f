/- A layer for walking through code on abstract values, told apart by who owns the memory: its definitions and their soundness; no condition. -/
import Derived.Test.YtpcgnmoogjahbaaW18
set_option linter.unusedVariables false
set_option linter.unusedSimpArgs false
namespace Go.W
open Go Go.RowKit

/-! ### 1. Forth into other names -/
section
variable {S : Nat → Prop} {w0 w : World} {φ φ' : Phi} {h h' : H} {F : Nat → Fp} {n0 : Nat}
structure Rf (r : Nat → Nat) (φ φ' : Phi) : Prop where
  m : ∀ b p, φ.m b = some p → φ'.m (r b) = some p
  z : FLe φ.z φ'.z
theorem Rf.p {r : Nat → Nat} (hr : Rf r φ φ') {x : V} {v : Value} (h : RelP φ x v) : RelP φ' (rnP r x) v := by
  cases x with
  | sl b off len cap => simp only [rnP, RelP] at *; obtain ⟨p, n, h1, h2⟩ := h; exact ⟨p, n, hr.m _ _ h1, h2⟩
  | ptr b i o => simp only [rnP, RelP] at *; obtain ⟨k, n, h1, h2⟩ := h; exact ⟨k, n, hr.m _ _ h1, h2⟩
  | _ => simp only [rnP, RelP] at *; exact RZ.mono hr.z _ _ h
theorem all2_to {α β γ : Type} {R : α → β → Prop} {R' : γ → β → Prop} {f : α → γ} (h : ∀ x y, R x y → R' (f x) y) {xs : List α} {ys : List β} (a : All2 R xs ys) : All2 R' (xs.map f) ys :=
  all2_map.2 (a.mono h)
theorem Rf.c {r : Nat → Nat} (hr : Rf r φ φ') {x : V} {v : Value} (h : RelC φ x v) : RelC φ' (rnC r x) v := by
  cases x with
  | fn f caps =>
    simp only [rnC, RelC] at *
    obtain ⟨l, h1, h2⟩ := h
    exact ⟨l, h1, all2_to (f := rnP r) (fun _ _ => hr.p) h2⟩
  | s a => exact hr.p (x := .s a) (v := v) h
  | f n e => exact hr.p (x := .f n e) (v := v) h
  | l n e => exact hr.p (x := .l n e) (v := v) h
  | lp c => exact hr.p (x := .lp c) (v := v) h
  | z => exact hr.p (x := .z) (v := v) h
  | sl b o l c => exact hr.p (x := .sl b o l c) (v := v) h
  | ptr b i o => exact hr.p (x := .ptr b i o) (v := v) h
  | pd c => exact hr.p (x := .pd c) (v := v) h
  | agg c => exact hr.p (x := .agg c) (v := v) h
  | tup c => exact hr.p (x := .tup c) (v := v) h
  | any => exact hr.p (x := .any) (v := v) h
theorem Rf.q {r : Nat → Nat} (hr : Rf r φ φ') {x : V} {v : Value} (h : RelQ φ x v) : RelQ φ' (rnQ r x) v := by
  cases x with
  | agg cs =>
    simp only [rnQ, RelQ] at *
    obtain ⟨l, h1, h2⟩ := h
    exact ⟨l, h1, all2_to (f := rnC r) (fun _ _ => hr.c) h2⟩
  | s a => exact hr.c (x := .s a) (v := v) h
  | f n e => exact hr.c (x := .f n e) (v := v) h
  | l n e => exact hr.c (x := .l n e) (v := v) h
  | lp c => exact hr.c (x := .lp c) (v := v) h
  | z => exact hr.c (x := .z) (v := v) h
  | sl b o l c => exact hr.c (x := .sl b o l c) (v := v) h
  | ptr b i o => exact hr.c (x := .ptr b i o) (v := v) h
  | pd c => exact hr.c (x := .pd c) (v := v) h
  | fn f c => exact hr.c (x := .fn f c) (v := v) h
  | tup c => exact hr.c (x := .tup c) (v := v) h
  | any => exact hr.c (x := .any) (v := v) h
theorem Rf.v {r : Nat → Nat} (hr : Rf r φ φ') {x : V} {v : Value} (h : RelV φ x v) : RelV φ' (rnV r x) v := by
  cases x with
  | tup cs =>
    simp only [rnV, RelV] at *
    obtain ⟨l, h1, h2⟩ := h
    exact ⟨l, h1, all2_to (f := rnQ r) (fun _ _ => hr.q) h2⟩
  | s a => exact hr.q (x := .s a) (v := v) h
  | f n e => exact hr.q (x := .f n e) (v := v) h
  | l n e => exact hr.q (x := .l n e) (v := v) h
  | lp c => exact hr.q (x := .lp c) (v := v) h
  | z => exact hr.q (x := .z) (v := v) h
  | sl b o l c => exact hr.q (x := .sl b o l c) (v := v) h
  | ptr b i o => exact hr.q (x := .ptr b i o) (v := v) h
  | pd c => exact hr.q (x := .pd c) (v := v) h
  | fn f c => exact hr.q (x := .fn f c) (v := v) h
  | agg c => exact hr.q (x := .agg c) (v := v) h
  | any => exact hr.q (x := .any) (v := v) h
theorem Dc.rf {r : Nat → Nat} (hr : Rf r φ φ') {x : V} {v : Value} {fp : Fp} (h : Dc φ w x v fp) : Dc φ' w (rnC r x) v fp := by
  rcases h with ⟨h, rfl⟩ | h
  · exact .inl ⟨hr.c h, rfl⟩
  · cases x with
    | fn f caps => simp only [T] at h; exact .inl ⟨hr.c (x := .fn f caps) (relC_of_rz h.1), h.2⟩
    | sl b o l c => simp [T, RZ] at h
    | ptr b i o => simp [T, RZ] at h
    | _ => exact .inr (T.mono hr.z _ v fp (fun _ _ => rfl) h)
theorem ls_to {R R' : V → Value → Fp → Prop} {f : V → V} (hf : ∀ x v fp, R x v fp → R' (f x) v fp) : ∀ {xs : List V} {vs : List Value} {fp : Fp}, Ls R xs vs fp → Ls R' (xs.map f) vs fp
  | [], _, _, h => h
  | x :: xs, vs, fp, h => by
    simp only [List.map_cons, Ls] at *
    obtain ⟨v, t, f1, f2, rfl, rfl, h3, h4⟩ := h
    exact ⟨v, t, f1, f2, rfl, rfl, hf _ _ _ h3, ls_to hf h4⟩
theorem lss_to {R R' : V → Value → Fp → Prop} {f : V → V} (hf : ∀ x v fp, R x v fp → R' (f x) v fp) {n : Nat} : ∀ {els : List (List V)} {vs : List Value} {fp : Fp}, Lss R n els vs fp → Lss R' n (els.map fun el => el.map f) vs fp
  | [], _, _, h => h
  | x :: xs, vs, fp, h => by
    simp only [List.map_cons, Lss] at *
    obtain ⟨h0, f1, f2, rfl, h3, h4⟩ := h
    exact ⟨by simpa using h0, f1, f2, rfl, ls_to hf h3, lss_to hf h4⟩
theorem BlkRel.rf {r : Nat → Nat} (hr : Rf r φ φ') {b : Nat} {B : Blk} {fp : Fp} (h : BlkRel φ w b B fp) : BlkRel φ' w (r b) (rnB r B) fp := by
  unfold BlkRel at *
  by_cases hl : B.live = true
  · rw [if_pos hl] at h
    rw [if_pos (by exact hl)]
    obtain ⟨p, k1, k2, k3, k4⟩ := h
    refine ⟨p, hr.m _ _ k1, fun el he => ?_, by simpa [rnB] using k3, ?_⟩
    · obtain ⟨e, h1, rfl⟩ := List.mem_map.1 he
      simpa [rnB] using k2 e h1
    · cases p with
      | none => exact ⟨by simp [rnB, k4.1], k4.2⟩
      | some k =>
        obtain ⟨c, ty, fq, e1, e2, e3, e4, e5⟩ := k4
        exact ⟨c, ty, fq, e1, e2, by simpa [rnB] using e3, lss_to (f := rnC r) (fun x v fp => Dc.rf hr) e4, e5⟩
  · rw [if_neg hl] at h
    rw [if_neg (by exact hl)]; exact h
theorem BlkRel.rn {r : Nat → Nat} (hr : Rn r φ φ') {b : Nat} {B : Blk} {fp : Fp} (h : BlkRel φ w (r b) (rnB r B) fp) : BlkRel φ' w b B fp := by
  unfold BlkRel at *
  by_cases hl : B.live = true
  · rw [if_pos (by exact hl)] at h
    rw [if_pos hl]
    obtain ⟨p, k1, k2, k3, k4⟩ := h
    simp only [rnB] at k1 k2 k3 k4
    refine ⟨p, hr.m _ _ k1, fun el he => ?_, by simpa using k3, ?_⟩
    · have := k2 (el.map (rnC r)) (List.mem_map.2 ⟨el, he, rfl⟩); simpa using this
    · cases p with
      | none => exact ⟨by simpa using k4.1, k4.2⟩
      | some k =>
        obtain ⟨c, ty, fq, e1, e2, e3, e4, e5⟩ := k4
        exact ⟨c, ty, fq, e1, e2, by simpa using e3, lss_map (fun x v fp => Dc.rn hr) e4, e5⟩
  · rw [if_neg (by exact hl)] at h
    rw [if_neg hl]; exact h
end

/-! ### 2. A call sees the blocks that it's handed, no others -/
/-- The caller's name of a block of the callee. -/
def emb (l : List Nat) (L : Nat) (b : Nat) : Nat := (l[b]?).getD (L + (b - l.length))
def setAll : H → List Nat → H → H
  | H, [], h => H ++ h
  | H, i :: l, B :: h => setAll (H.set i B) l h
  | H, _ :: _, [] => H
def rnRes (r : Nat → Nat) : Res → Res
  | .ret v => .ret (rnV r v)
  | .pan v => .pan (rnV r v)

theorem setAll_spec : ∀ (l : List Nat) (H h : Go.W.H), l.length ≤ h.length → l.Nodup → (∀ b ∈ l, b < H.length) →
    (setAll H l h).length = H.length + (h.length - l.length) ∧ (∀ i b : Nat, l[i]? = some b → (setAll H l h)[b]? = h[i]?) ∧ (∀ b : Nat, b < H.length → b ∉ l → (setAll H l h)[b]? = H[b]?) ∧ (∀ j : Nat, (setAll H l h)[H.length + j]? = h[l.length + j]?)
  | [], H, h, _, _, _ => by
    refine ⟨by simp [setAll], fun i b e => by simp at e, fun b hb _ => by simp [setAll, List.getElem?_append_left hb], fun j => ?_⟩
    simp only [setAll]; rw [List.getElem?_append_right (by omega)]; congr 1; simp
  | b0 :: l, H, [], hl, _, _ => by simp at hl
  | b0 :: l, H, B :: h, hl, hn, hb => by
    simp only [List.nodup_cons] at hn
    have hl' : l.length ≤ h.length := by simpa using hl
    obtain ⟨h1, h2, h3, h4⟩ := setAll_spec l (H.set b0 B) h hl' hn.2 (fun b hb' => by simpa using hb b (by simp [hb']))
    have hb0 := hb b0 (by simp)
    simp only [setAll]
    refine ⟨by simp at h1 ⊢; omega, fun i b e => ?_, fun b hbl hbn => ?_, fun j => ?_⟩
    · cases i with
      | zero =>
        simp at e; subst e
        rw [h3 b0 (by simpa using hb0) hn.1]; simp [hb0]
      | succ i =>
        simp at e ⊢
        exact h2 i b e
    · simp at hbn
      rw [h3 b (by simpa using hbl) hbn.2, List.getElem?_set_ne (Ne.symm hbn.1)]
    · have := h4 j
      simp only [List.length_set] at this
      rw [this, show (b0 :: l).length + j = (l.length + j) + 1 by simp; omega]; rfl

theorem CallsV.frame {C : Cx} {f : Nat} {args : List V} {h0 : H} {R : Res → H → Prop} (c : CallsV C f args h0 R) (l : List Nat) (H : H) (hl : l.length = h0.length) (hn : l.Nodup)
    (hb : ∀ (i : Nat) B, h0[i]? = some B → ∃ b : Nat, l[i]? = some b ∧ H[b]? = some (rnB (emb l H.length) B)) :
    CallsV C f (args.map (rnV (emb l H.length))) H fun res h' => ∃ r h1, R r h1 ∧ res = rnRes (emb l H.length) r ∧ h' = setAll H l (h1.map (rnB (emb l H.length))) := by
  intro S w0 φ vs w G ⟨F, RF⟩ ha
  have hlt : ∀ i b : Nat, l[i]? = some b → b < H.length := fun i b e => by
    have : i < h0.length := by have := (List.getElem?_eq_some_iff.1 e).1; omega
    obtain ⟨b', q1, q2⟩ := hb i _ (List.getElem?_eq_getElem this)
    rw [e] at q1; cases q1
    exact (List.getElem?_eq_some_iff.1 q2).1
  have hmem : ∀ b ∈ l, b < H.length := fun b hb' => by obtain ⟨i, hi, e⟩ := List.mem_iff_getElem.1 hb'; exact hlt i b (by rw [List.getElem?_eq_getElem hi, e])
  have hemb : ∀ i b : Nat, l[i]? = some b → emb l H.length i = b := fun i b e => by unfold emb; rw [e]; rfl
  have hinj : ∀ i j b : Nat, l[i]? = some b → l[j]? = some b → i = j := fun i j b e1 e2 => by
    obtain ⟨i1, e1⟩ := List.getElem?_eq_some_iff.1 e1
    obtain ⟨j1, e2⟩ := List.getElem?_eq_some_iff.1 e2
    exact (List.getElem_inj hn).1 (e1.trans e2.symm)
  -- the callee's view
  let φ0 : Phi := ⟨fun i => match l[i]? with | some b => φ.m b | none => none, φ.z⟩
  let F0 : Nat → Fp := fun i => match l[i]? with | some b => F b | none => []
  let S0 : Nat → Prop := fun k => ∃ i, k ∈ F0 i
  have hF0 : ∀ (i k : Nat), k ∈ F0 i → ∃ b : Nat, l[i]? = some b ∧ k ∈ F b := fun i k hk => by
    simp only [F0] at hk
    split at hk
    · rename_i b e; exact ⟨b, e, hk⟩
    · simp at hk
  have hrn : Rn (emb l H.length) φ φ0 := ⟨fun i p e => (by
    show (match l[i]? with | some b => φ.m b | none => none) = some p
    unfold emb at e
    cases hi : l[i]? with
    | some b => rw [hi] at e; exact e
    | none => rw [hi] at e; simp only [Option.getD_none] at e; rw [RF.dom _ (by omega)] at e; exact absurd e (by simp)), FLe.refl _⟩
  have hS0 : ∀ k, S0 k → Mine S w0 k ∧ k < w.heap.size := fun k ⟨i, hk⟩ => by
    obtain ⟨b, _, hk⟩ := hF0 i k hk
    exact RF.mine b k hk
  have R0 : RelF S0 w φ0 h0 w F0 := by
    refine ⟨Kept.refl _ _, fun i hi => ?_, RF.zok, fun i k o hk => ?_, fun i k hk => ?_, fun i => ?_, fun i j k hk hk' => ?_, fun i hi => ?_, fun i B hB => ?_⟩
    · show (match l[i]? with | some b => φ.m b | none => none) = none
      rw [List.getElem?_eq_none (by omega)]
    · obtain ⟨b, _, hk⟩ := hF0 i k hk; exact RF.znot b k o hk
    · obtain ⟨b, _, hk'⟩ := hF0 i k hk; exact ⟨.inl ⟨i, hk⟩, (RF.mine b k hk').2⟩
    · simp only [F0]; split
      · exact RF.nodup _
      · exact List.nodup_nil
    · obtain ⟨b, e1, q1⟩ := hF0 i k hk
      obtain ⟨b', e2, q2⟩ := hF0 j k hk'
      have := RF.disj b b' k q1 q2
      subst this
      exact hinj i j b e1 e2
    · simp only [F0]; rw [List.getElem?_eq_none (by omega)]
    · obtain ⟨b, e1, e2⟩ := hb i B hB
      have h1 := RF.blk b _ e2
      have : F0 i = F b := by simp only [F0, e1]
      rw [this]
      exact BlkRel.rn hrn (by rw [hemb i b e1]; exact h1)
  have hargs : All2 (RelV φ0) args vs.toList := (all2_map.1 ha).mono fun _ _ => hrn.v
  refine (c S0 w φ0 vs w G ⟨F0, R0⟩ hargs).mono fun e w1 ⟨r, φ1, h1, p1, ⟨F1, R1⟩, p3, p4, p5⟩ => ?_
  -- back
  have hL : l.length ≤ h1.length := by omega
  let ρ := emb l H.length
  let φ2 : Phi := ⟨fun b => if b < H.length then φ.m b else φ1.m (l.length + (b - H.length)), φ1.z⟩
  have hρ : ∀ i : Nat, (∃ b : Nat, l[i]? = some b ∧ ρ i = b ∧ b < H.length) ∨ (l.length ≤ i ∧ ρ i = H.length + (i - l.length)) := fun i => by
    show (∃ b, l[i]? = some b ∧ emb l H.length i = b ∧ b < H.length) ∨ (l.length ≤ i ∧ emb l H.length i = _)
    cases hi : l[i]? with
    | some b => exact .inl ⟨b, rfl, hemb i b hi, hlt i b hi⟩
    | none =>
      have := List.getElem?_eq_none_iff.1 hi
      exact .inr ⟨this, by unfold emb; rw [hi]; rfl⟩
  have hrf : Rf ρ φ1 φ2 := ⟨fun i p e => by
    show (if ρ i < H.length then φ.m (ρ i) else φ1.m (l.length + (ρ i - H.length))) = some p
    rcases hρ i with ⟨b, q1, q2, q3⟩ | ⟨q1, q2⟩
    · rw [q2, if_pos q3]
      have hi : i < h0.length := by have := (List.getElem?_eq_some_iff.1 q1).1; omega
      rw [p3.m i hi] at e
      have : φ0.m i = φ.m b := by show (match l[i]? with | some b => φ.m b | none => none) = _; rw [q1]
      rw [this] at e; exact e
    · rw [q2, if_neg (by omega), show l.length + (H.length + (i - l.length) - H.length) = i by omega]; exact e, FLe.refl _⟩
  have hS0' : ∀ k, Mine S0 w k → Mine S w0 k := fun k hk => by
    rcases hk with q | q
    · exact (hS0 k q).1
    · exact .inr (Nat.le_trans RF.kept.size q)
  have hfree : ∀ b, b < H.length → b ∉ l → ∀ k ∈ F b, ¬ Mine S0 w k := fun b hbl hbn k hk hm => by
    rcases hm with ⟨i, q⟩ | q
    · obtain ⟨b', e, q⟩ := hF0 i k q
      have := RF.disj b b' k hk q
      subst this
      exact hbn (List.mem_of_getElem? e)
    · have := (RF.mine b k hk).2; omega
  have hext : ExtN S w0 H.length φ φ2 := ⟨fun b hbl => by show (if b < H.length then _ else _) = _; rw [if_pos hbl], p3.z, fun k o v e => by
    rcases p3.new k o v e with q | q
    · exact .inl q
    · exact .inr (hS0' k q)⟩
  have hkept : Kept S w0 w1 := by
    have k1 := R1.kept
    refine ⟨k1.os.trans RF.kept.os, k1.tape.trans RF.kept.tape, k1.output.trans RF.kept.output, Nat.le_trans RF.kept.size k1.size, fun j hj hs => ?_⟩
    rw [k1.block j (Nat.lt_of_lt_of_le hj RF.kept.size) fun hq => ?_]
    · exact RF.kept.block j hj hs
    · rcases (hS0 j hq).1 with q | q
      · exact hs q
      · omega
  obtain ⟨g1, g2, g3, g4⟩ := setAll_spec l H (h1.map (rnB ρ)) (by simpa using hL) hn hmem
  have hidx : ∀ b, Decidable (b ∈ l) := fun b => inferInstance
  -- the footprints
  have key : ∃ F2 : Nat → Fp, (∀ i, F2 (ρ i) = F1 i) ∧ (∀ b, b < H.length → b ∉ l → F2 b = F b) := by
    refine ⟨fun b => if b < H.length then (if b ∈ l then F1 (l.idxOf b) else F b) else F1 (l.length + (b - H.length)), fun i => ?_, fun b h1 h2 => ?_⟩
    · rcases hρ i with ⟨b, q1, q2, q3⟩ | ⟨q1, q2⟩
      · simp only [q2, q3, if_true, List.mem_of_getElem? q1]
        obtain ⟨hi, e⟩ := List.getElem?_eq_some_iff.1 q1
        have hm := List.mem_of_getElem? q1
        have : l[l.idxOf b]? = some b := by
          rw [List.getElem?_eq_getElem (List.idxOf_lt_length_of_mem hm)]; simp
        rw [hinj _ i b this q1]
      · simp only [q2]
        rw [if_neg (by omega), show l.length + (H.length + (i - l.length) - H.length) = i by omega]
    · simp only [h1, h2, if_true, if_false]
  obtain ⟨F2, hF2, hF2'⟩ := key
  have hsplit : ∀ b, (∃ i, b = ρ i) ∨ (b < H.length ∧ b ∉ l) := fun b => by
    by_cases hbl : b < H.length
    · by_cases hbm : b ∈ l
      · obtain ⟨i, hi, e⟩ := List.mem_iff_getElem.1 hbm
        exact .inl ⟨i, (hemb i b (by rw [List.getElem?_eq_getElem hi, e])).symm⟩
      · exact .inr ⟨hbl, hbm⟩
    · refine .inl ⟨l.length + (b - H.length), ?_⟩
      show b = emb l H.length _
      unfold emb
      rw [List.getElem?_eq_none (by omega)]
      simp only [Option.getD_none]; omega
  have hρinj : ∀ i j, ρ i = ρ j → i = j := fun i j e => by
    rcases hρ i with ⟨b, q1, q2, q3⟩ | ⟨q1, q2⟩ <;> rcases hρ j with ⟨b', q1', q2', q3'⟩ | ⟨q1', q2'⟩
    · rw [q2, q2'] at e; subst e; exact hinj i j b q1 q1'
    · omega
    · omega
    · omega
  have mine1 : ∀ i k, k ∈ F1 i → Mine S0 w k := fun i k hk => (R1.mine i k hk).1
  refine ⟨rnRes ρ r, φ2, setAll H l (h1.map (rnB ρ)), ?_, ⟨F2, hkept, ?_, R1.zok, ?_, ?_, ?_, ?_, ?_, ?_⟩, hext, by rw [g1]; omega, r, h1, p5, rfl, rfl⟩
  · cases r with
    | ret x => obtain ⟨v, e, rv⟩ := p1; exact ⟨v, e, hrf.v rv⟩
    | pan x => obtain ⟨v, e, rv⟩ := p1; exact ⟨v, e, hrf.v rv⟩
  · intro b hbl
    rw [g1] at hbl
    simp only [List.length_map] at hbl
    show (if b < H.length then _ else _) = none
    rw [if_neg (by omega)]
    exact R1.dom _ (by omega)
  · intro b k o hk
    rcases hsplit b with ⟨i, rfl⟩ | ⟨q1, q2⟩
    · rw [hF2] at hk; exact R1.znot i k o hk
    · rw [hF2' b q1 q2] at hk
      cases hz : φ2.z k o with
      | none => rfl
      | some v =>
        rcases p3.new k o v hz with q | q
        · have := RF.znot b k o hk
          rw [show φ0.z = φ.z from rfl] at q
          rw [this] at q; cases q
        · exact absurd q (hfree b q1 q2 k hk)
  · intro b k hk
    rcases hsplit b with ⟨i, rfl⟩ | ⟨q1, q2⟩
    · rw [hF2] at hk; exact ⟨hS0' k (mine1 i k hk), (R1.mine i k hk).2⟩
    · rw [hF2' b q1 q2] at hk; exact ⟨(RF.mine b k hk).1, Nat.lt_of_lt_of_le (RF.mine b k hk).2 R1.kept.size⟩
  · intro b
    rcases hsplit b with ⟨i, rfl⟩ | ⟨q1, q2⟩
    · rw [hF2]; exact R1.nodup i
    · rw [hF2' b q1 q2]; exact RF.nodup b
  · intro b b' k hk hk'
    rcases hsplit b with ⟨i, rfl⟩ | ⟨q1, q2⟩ <;> rcases hsplit b' with ⟨j, rfl⟩ | ⟨q1', q2'⟩
    · rw [hF2] at hk hk'; rw [R1.disj i j k hk hk']
    · rw [hF2] at hk; rw [hF2' b' q1' q2'] at hk'; exact absurd (mine1 i k hk) (hfree b' q1' q2' k hk')
    · rw [hF2] at hk'; rw [hF2' b q1 q2] at hk; exact absurd (mine1 j k hk') (hfree b q1 q2 k hk)
    · rw [hF2' b q1 q2] at hk; rw [hF2' b' q1' q2'] at hk'; exact RF.disj b b' k hk hk'
  · intro b hbl
    rw [g1] at hbl
    simp only [List.length_map] at hbl
    rcases hsplit b with ⟨i, rfl⟩ | ⟨q1, q2⟩
    · rw [hF2]
      refine R1.out i ?_
      rcases hρ i with ⟨b', q1, q2, q3⟩ | ⟨q1, q2⟩ <;> omega
    · omega
  · intro b B hB
    rcases hsplit b with ⟨i, rfl⟩ | ⟨q1, q2⟩
    · have : ∃ B1, h1[i]? = some B1 ∧ B = rnB ρ B1 := by
        rcases hρ i with ⟨b', q1, q2, q3⟩ | ⟨q1, q2⟩
        · rw [q2, g2 i b' q1] at hB
          simp only [List.getElem?_map, Option.map_eq_some_iff] at hB
          obtain ⟨B1, e1, e2⟩ := hB
          exact ⟨B1, e1, e2.symm⟩
        · rw [q2, g4, show l.length + (i - l.length) = i by omega] at hB
          simp only [List.getElem?_map, Option.map_eq_some_iff] at hB
          obtain ⟨B1, e1, e2⟩ := hB
          exact ⟨B1, e1, e2.symm⟩
      obtain ⟨B1, e1, rfl⟩ := this
      rw [hF2]
      exact BlkRel.rf hrf (R1.blk i B1 e1)
    · rw [g3 b q1 q2] at hB
      rw [hF2' b q1 q2]
      refine (RF.blk b B hB).keep ⟨fun j p e => ?_, p3.z⟩ fun k hk => ?_
      · rcases Nat.lt_or_ge j H.length with q | q
        · show (if j < H.length then _ else _) = _; rw [if_pos q]; exact e
        · rw [RF.dom j q] at e; cases e
      · exact R1.kept.block k (RF.mine b k hk).2 fun hq => hfree b q1 q2 k hk (.inl hq)

/-- A function that takes nothing of one's own in hand: what it answers stands behind what there is. -/
theorem CallsV.lift {C : Cx} {f : Nat} {args : List V} {R : Res → H → Prop} (c : CallsV C f args [] R) (H : H) :
    CallsV C f (args.map (rnV (H.length + ·))) H fun res h' => ∃ r h1, R r h1 ∧ res = rnRes (H.length + ·) r ∧ h' = H ++ h1.map (rnB (H.length + ·)) := by
  have e : emb [] H.length = (H.length + ·) := by funext b; simp [emb]
  have := CallsV.frame c [] H rfl List.nodup_nil (fun i B e => by simp at e)
  rw [e] at this
  exact this.mono fun r h' ⟨r1, h1, q1, q2, q3⟩ => ⟨r1, h1, q1, q2, by rw [q3]; cases h1 <;> simp [setAll]⟩
end Go.W
