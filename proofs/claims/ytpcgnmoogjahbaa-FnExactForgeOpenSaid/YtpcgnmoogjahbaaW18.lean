/- A layer for walking through code on abstract values, told apart by who owns the memory: its definitions and their soundness; no condition. -/
import Derived.Test.YtpcgnmoogjahbaaW17
set_option linter.unusedVariables false
set_option linter.unusedSimpArgs false
namespace Go.W
open Go Go.RowKit

/-! ### 3. What tells less -/
def leC : V → V → Prop
  | _, .any => True
  | .z, .f _ els => els = []
  | x, y => x = y
def leL : List V → List V → Prop
  | [], [] => True
  | x :: xs, y :: ys => leC x y ∧ leL xs ys
  | _, _ => False
def leQ : V → V → Prop
  | .agg cs, .agg ds => leL cs ds
  | x, y => leC x y
def leQL : List V → List V → Prop
  | [], [] => True
  | x :: xs, y :: ys => leQ x y ∧ leQL xs ys
  | _, _ => False
def leV : V → V → Prop
  | .tup cs, .tup ds => leQL cs ds
  | x, y => leQ x y

section
variable {S : Nat → Prop} {w0 w : World} {φ φ' : Phi} {h h' : H} {F : Nat → Fp} {n0 : Nat}

theorem leC_rel {x y : V} {v : Value} (h : leC x y) (r : RelC φ x v) : RelC φ y v := by
  unfold leC at h
  split at h
  · simp [RelC, RelP, RZ]
  · subst h; simp only [RelC, RelP, RZ] at *; exact .inl ⟨trivial, r⟩
  · subst h; exact r
theorem leL_rel : ∀ {xs ys : List V} {vs : List Value}, leL xs ys → All2 (RelC φ) xs vs → All2 (RelC φ) ys vs
  | [], [], _, _, r => r
  | x :: xs, y :: ys, [], _, r => r.elim
  | x :: xs, y :: ys, v :: vs, h, r => ⟨leC_rel h.1 r.1, leL_rel h.2 r.2⟩
  | [], _ :: _, _, h, _ => h.elim
  | _ :: _, [], _, h, _ => h.elim
theorem relQ_agg {cs : List V} {v : Value} : RelQ φ (.agg cs) v = ∃ l, v = .agg l ∧ All2 (RelC φ) cs l.toList := rfl
theorem relQ_C {x : V} {v : Value} (hx : ∀ cs, x ≠ .agg cs) : RelQ φ x v = RelC φ x v := by
  cases x <;> first | rfl | exact absurd rfl (hx _)
theorem relV_Q {x : V} {v : Value} (hx : ∀ cs, x ≠ .tup cs) : RelV φ x v = RelQ φ x v := by
  cases x <;> first | rfl | exact absurd rfl (hx _)
theorem relQ_any {v : Value} : RelQ φ .any v := by simp [RelQ, RelC, RelP, RZ]
theorem leC_q {x y : V} {v : Value} (h : leC x y) (r : RelQ φ x v) : RelQ φ y v := by
  unfold leC at h
  split at h
  · exact relQ_any
  · subst h; exact leC_rel (x := .z) (y := .f _ []) rfl r
  · subst h; exact r
theorem leQ_rel {x y : V} {v : Value} (h : leQ x y) (r : RelQ φ x v) : RelQ φ y v := by
  unfold leQ at h
  split at h
  · obtain ⟨l, e, r⟩ := r; exact ⟨l, e, leL_rel h r⟩
  · exact leC_q h r
theorem leQL_rel : ∀ {xs ys : List V} {vs : List Value}, leQL xs ys → All2 (RelQ φ) xs vs → All2 (RelQ φ) ys vs
  | [], [], _, _, r => r
  | x :: xs, y :: ys, [], _, r => r.elim
  | x :: xs, y :: ys, v :: vs, h, r => ⟨leQ_rel h.1 r.1, leQL_rel h.2 r.2⟩
  | [], _ :: _, _, h, _ => h.elim
  | _ :: _, [], _, h, _ => h.elim
theorem leV_rel {x y : V} {v : Value} (h : leV x y) (r : RelV φ x v) : RelV φ y v := by
  unfold leV at h
  split at h
  · obtain ⟨l, e, r⟩ := r; exact ⟨l, e, leQL_rel h r⟩
  · unfold leQ at h
    split at h
    · rename_i cs ds _; obtain ⟨l, e, r⟩ := r; exact ⟨l, e, leL_rel h r⟩
    · unfold leC at h
      split at h
      · exact relV_any
      · subst h; exact leC_rel (x := .z) (y := .f _ []) rfl r
      · subst h; exact r

theorem Arr.le (n0 : Nat) (h : H) : Arr n0 h h leV := fun S w0 φ w R hn => ⟨φ, R, ExtN.refl .., hn, fun x x' v hm r => leV_rel hm r⟩

/-! ### 4. Folding -/
/-- The elements of a block as what a cell owns. -/
def ownOf : V → Option Blk → Option V
  | .sl _ off len cap, some ⟨els, n, cap', true⟩ => if off = 0 ∧ len = els.length ∧ cap = cap' then some (.l n els) else none
  | .ptr _ i o, some ⟨[el], _, cap', true⟩ => if i = 0 ∧ o = 0 ∧ cap' = 1 then some (.lp el) else none
  | _, _ => none
def refB : V → Option Nat
  | .sl b _ _ _ => some b
  | .ptr b _ _ => some b
  | _ => none
/-- No reference to a block. -/
def nr : V → Bool
  | .s _ => true
  | .f _ _ => true
  | .l _ _ => true
  | .lp _ => true
  | .z => true
  | .pd _ => true
  | _ => false
def nrs (els : List (List V)) : Bool := els.all fun el => el.all nr
def elsB : Option Blk → List (List V)
  | some B => B.els
  | none => []

/-- What the cell (b, i, o) refers to becomes its own. -/
def foldK (h : H) (b i o : Nat) : Option V → H
  | some x => match refB x with
    | some b1 => match ownOf x (h[b1]?) with
      | some y => if nrs (elsB (h[b1]?)) = true ∧ b1 ≠ b then (wrH h b i o [y]).set b1 Blk.dead else h
      | none => h
    | none => h
  | none => h
def foldC (h : H) (b i o : Nat) : H := foldK h b i o (rdC (rdB (h[b]?) i) o)

theorem nr_T {x : V} {v : Value} {f : Fp} (hn : nr x = true) (d : Dc φ w x v f) : T φ.z w x v f := by
  rcases d with ⟨r, rfl⟩ | d
  · cases x with
    | s a => simp only [T]; exact ⟨r, trivial⟩
    | f n e => simp only [T]; exact ⟨r, trivial⟩
    | z => simp only [T]; exact ⟨r, trivial⟩
    | pd c => simp only [T]; exact ⟨r, trivial⟩
    | l n e => simp [RelC, RelP, RZ] at r
    | lp c => simp [RelC, RelP, RZ] at r
    | _ => cases hn
  · exact d
theorem nr_ls : ∀ {xs : List V} {vs : List Value} {f : Fp}, xs.all nr = true → Ls (Dc φ w) xs vs f → Ls (T φ.z w) xs vs f
  | [], _, _, _, h => h
  | x :: xs, vs, f, hn, h => by
    simp only [List.all_cons, Bool.and_eq_true] at hn
    simp only [Ls] at *
    obtain ⟨v, t, f1, f2, e1, e2, h3, h4⟩ := h
    exact ⟨v, t, f1, f2, e1, e2, nr_T hn.1 h3, nr_ls hn.2 h4⟩
theorem nr_lss {n : Nat} : ∀ {els : List (List V)} {vs : List Value} {f : Fp}, nrs els = true → Lss (Dc φ w) n els vs f → Lss (T φ.z w) n els vs f
  | [], _, _, _, h => h
  | x :: xs, vs, f, hn, h => by
    simp only [nrs, List.all_cons, Bool.and_eq_true] at hn
    simp only [Lss] at *
    obtain ⟨h0, f1, f2, e1, h3, h4⟩ := h
    exact ⟨h0, f1, f2, e1, nr_ls hn.1 h3, nr_lss (by simpa [nrs] using hn.2) h4⟩

/-- A block's content becomes a cell's own. -/
theorem RelF.join (R : RelF S w0 φ h w F) {b b1 k : Nat} {B' : Blk} {f1 f2 : Fp} (hb : b < h.length) (hne : b1 ≠ b) (hlt1 : b1 < h.length) (hF : F b = k :: (f1 ++ f2)) (hB : BlkRel φ w b B' (k :: (f1 ++ F b1 ++ f2))) :
    Rel S w0 φ ((h.set b B').set b1 Blk.dead) w := by
  have hnd := R.nodup b
  rw [hF] at hnd
  have mem : ∀ x, x ∈ k :: (f1 ++ F b1 ++ f2) → x ∈ F b ∨ x ∈ F b1 := fun x hx => by
    rw [hF]; simp at hx ⊢; rcases hx with q | q | q | q <;> simp [q]
  have dis : ∀ x, x ∈ F b → x ∉ F b1 := fun x h1 h2 => hne (R.disj b b1 x h1 h2).symm
  refine ⟨fun j => if j = b then k :: (f1 ++ F b1 ++ f2) else if j = b1 then [] else F j, R.kept, ?_, R.zok, ?_, ?_, ?_, ?_, ?_, ?_⟩
  · intro j hj; exact R.dom j (by simpa using hj)
  · intro j x o hx
    by_cases e : j = b
    · simp only [e, if_true] at hx
      rcases mem x hx with q | q
      · exact R.znot b x o q
      · exact R.znot b1 x o q
    · by_cases e2 : j = b1
      · simp only [e2, if_neg hne, if_true] at hx; simp at hx
      · simp only [e, e2, if_false] at hx; exact R.znot j x o hx
  · intro j x hx
    by_cases e : j = b
    · simp only [e, if_true] at hx
      rcases mem x hx with q | q
      · exact R.mine b x q
      · exact R.mine b1 x q
    · by_cases e2 : j = b1
      · simp only [e2, if_neg hne, if_true] at hx; simp at hx
      · simp only [e, e2, if_false] at hx; exact R.mine j x hx
  · intro j
    by_cases e : j = b
    · simp only [e, if_true]
      have h1 := R.nodup b1
      have hk : ∀ x ∈ F b1, x ∉ k :: (f1 ++ f2) := fun x hx hx' => dis x (by rw [hF]; exact hx') hx
      simp only [List.nodup_cons, List.nodup_append, List.mem_append] at hnd ⊢
      refine ⟨fun q => ?_, ⟨hnd.2.1, h1, fun x hx y hy e => ?_⟩, hnd.2.2.1, fun x hx y hy e => ?_⟩
      · rcases q with (q | q) | q
        · exact hnd.1 (.inl q)
        · exact hk k q (by simp)
        · exact hnd.1 (.inr q)
      · subst e; exact hk x hy (by simp [hx])
      · subst e
        rcases hx with hx | hx
        · exact hnd.2.2.2 x hx x hy rfl
        · exact hk x hx (by simp [hy])
    · by_cases e2 : j = b1
      · simp only [e2, if_neg hne, if_true]; exact List.nodup_nil
      · simp only [e, e2, if_false]; exact R.nodup j
  · intro j j' x hx hx'
    have key : ∀ j, x ∈ (if j = b then k :: (f1 ++ F b1 ++ f2) else if j = b1 then [] else F j) → (j = b ∧ (x ∈ F b ∨ x ∈ F b1)) ∨ (j ≠ b ∧ j ≠ b1 ∧ x ∈ F j) := by
      intro j hx
      by_cases e : j = b
      · simp only [e, if_true] at hx; exact .inl ⟨e, mem x hx⟩
      · by_cases e2 : j = b1
        · simp only [e2, if_neg hne, if_true] at hx; simp at hx
        · simp only [e, e2, if_false] at hx; exact .inr ⟨e, e2, hx⟩
    rcases key j hx with ⟨e, q⟩ | ⟨n1, n2, q⟩ <;> rcases key j' hx' with ⟨e', q'⟩ | ⟨n1', n2', q'⟩
    · rw [e, e']
    · rcases q with q | q
      · exact absurd (R.disj b j' x q q').symm n1'
      · exact absurd (R.disj b1 j' x q q').symm n2'
    · rcases q' with q' | q'
      · exact absurd (R.disj j b x q q') n1
      · exact absurd (R.disj j b1 x q q') n2
    · exact R.disj j j' x q q'
  · intro j hj
    simp at hj
    show (if j = b then _ else if j = b1 then _ else _) = _
    rw [if_neg (by omega), if_neg (by omega)]; exact R.out j hj
  · intro j C hC
    by_cases e2 : j = b1
    · subst e2
      simp [hlt1] at hC; subst hC
      simp only [if_neg hne, if_true]
      unfold BlkRel; rw [if_neg (by simp [Blk.dead])]
    · rw [List.getElem?_set_ne (Ne.symm e2)] at hC
      by_cases e : j = b
      · subst e
        simp [hb] at hC; subst hC
        simp only [if_true]; exact hB
      · rw [List.getElem?_set_ne (Ne.symm e)] at hC
        simp only [e, e2, if_false]; exact R.blk j C hC

theorem Arr.foldC (n0 : Nat) (h : H) (b i o : Nat) : Arr n0 h (Go.W.foldC h b i o) fun x x' => x' = x := by
  intro S w0 φ w ⟨F, R⟩ hn
  have same : Rel S w0 φ h w := ⟨F, R⟩
  have stay : Go.W.foldC h b i o = h → ∃ φ', Rel S w0 φ' (Go.W.foldC h b i o) w ∧ ExtN S w0 n0 φ φ' ∧ n0 ≤ (Go.W.foldC h b i o).length ∧ ∀ x x' v, x' = x → RelV φ x v → RelV φ' x' v := fun e => by
    rw [e]; exact ⟨φ, same, ExtN.refl .., hn, fun x x' v hm r => by subst hm; exact r⟩
  unfold Go.W.foldC at *
  cases hx : rdC (rdB (h[b]?) i) o with
  | none => rw [hx] at stay; exact stay rfl
  | some x =>
    rw [hx] at stay
    simp only [foldK] at stay ⊢
    cases hr : refB x with
    | none => rw [hr] at stay; exact stay rfl
    | some b1 =>
      rw [hr] at stay
      simp only at stay ⊢
      cases ho : ownOf x (h[b1]?) with
      | none => rw [ho] at stay; exact stay rfl
      | some y =>
        rw [ho] at stay
        simp only at stay ⊢
        split
        · rename_i hc
          obtain ⟨hnr, hne⟩ := hc
          clear stay
          obtain ⟨el, he, hxo⟩ := rdC_some hx
          obtain ⟨B, hb, hl, hel⟩ := rdB_some he
          obtain ⟨p, g1, g2, g3, g4⟩ := R.place hb hl
          have hlt : b < h.length := (List.getElem?_eq_some_iff.1 hb).1
          have hol : o < el.length := (List.getElem?_eq_some_iff.1 hxo).1
          cases p with
          | none => rw [g4.1] at hel; simp at hel
          | some k =>
            obtain ⟨c, ty, fq, y1, y2, y3, y4, y5⟩ := g4
            obtain ⟨f1, f, f2, x0, v, rfl, e3, hv, hd, hset⟩ := y4.set hel hol
            rw [hxo] at e3; cases e3
            have hxc : RelC φ x v ∧ f = [] := hd.rel (fun n e q => by subst q; cases hr) (fun cs q => by subst q; cases hr)
            obtain ⟨hxc, rfl⟩ := hxc
            -- the other block
            have hB1 : ∃ B1, h[b1]? = some B1 ∧ B1.live = true ∧ Dc φ w y v (F b1) := by
              unfold ownOf at ho
              split at ho
              · rename_i b2 off len cap els n cap' hb1
                simp only [refB, Option.some.injEq] at hr
                subst hr
                split at ho
                · rename_i hq
                  obtain ⟨rfl, rfl, rfl⟩ := hq
                  obtain rfl := Option.some.inj ho
                  refine ⟨_, hb1, rfl, ?_⟩
                  obtain ⟨p, n', q1, q2, q3⟩ := hxc
                  obtain ⟨p1, k1, k2, k3, k4⟩ := R.place hb1 rfl
                  simp only at k1 k2 k3 k4
                  rw [q1] at k1; obtain ⟨rfl, rfl⟩ := Prod.mk.inj (Option.some.inj k1)
                  right
                  simp only [T]
                  rw [hb1] at hnr
                  cases p with
                  | none => obtain ⟨⟨q, rfl⟩, _⟩ := q3; exact .inl ⟨k4.1, ⟨q, rfl⟩, k4.2.2⟩
                  | some k' =>
                    simp only [Nat.zero_mul] at q3
                    subst q3
                    obtain ⟨c1, ty1, fq1, z1, z2, z3, z4, z5⟩ := k4
                    exact .inr ⟨k', c1, ty1, _, fq1, rfl, z1, z2, z3, k3, z5, tss_lss.2 (nr_lss hnr z4)⟩
                · cases ho
              · rename_i b2 i2 o2 el1 n1 cap' hb1
                simp only [refB, Option.some.injEq] at hr
                subst hr
                split at ho
                · rename_i hq
                  obtain ⟨rfl, rfl, rfl⟩ := hq
                  obtain rfl := Option.some.inj ho
                  refine ⟨_, hb1, rfl, ?_⟩
                  obtain ⟨k', n', q1, rfl⟩ := hxc
                  obtain ⟨p1, k1, k2, k3, k4⟩ := R.place hb1 rfl
                  simp only at k1 k2 k3 k4
                  rw [q1] at k1; obtain ⟨rfl, rfl⟩ := Prod.mk.inj (Option.some.inj k1)
                  right
                  simp only [T]
                  rw [hb1] at hnr
                  obtain ⟨c1, ty1, fq1, z1, z2, z3, z4, z5⟩ := k4
                  have hel1 := k2 el1 (by simp)
                  have := nr_lss (els := [el1]) hnr z4
                  simp only [Lss] at this
                  obtain ⟨_, fa, fb, rfl, q2, q3⟩ := this
                  subst q3
                  simp only [List.append_nil] at z5
                  exact ⟨k', c1, ty1, fa, by simp, z1, by rw [z2]; simp [hel1], z5, ts_ls.2 q2⟩
                · cases ho
              · cases ho
            obtain ⟨B1, hb1, hl1, hdy⟩ := hB1
            have hlt1 : b1 < h.length := (List.getElem?_eq_some_iff.1 hb1).1
            refine ⟨φ, ?_, ExtN.refl .., by simp [wrH]; omega, fun x x' v hm r => by subst hm; exact r⟩
            unfold wrH
            rw [wrB_at hb hel]
            refine R.join (f1 := f1) (f2 := f2) hlt hne hlt1 (by simpa using y5) ?_
            unfold BlkRel
            rw [if_pos (by exact hl)]
            refine ⟨some k, g1, ?_, by simpa using g3, c, ty, f1 ++ F b1 ++ f2, y1, y2, by simpa using y3, ?_, rfl⟩
            · intro e' he'
              simp only at he'
              rcases List.mem_or_eq_of_mem_set he' with q | q
              · exact g2 e' q
              · subst q; simp only [wrL, List.length_set]; exact g2 el (List.mem_of_getElem? hel)
            · simp only [wrL]
              have := hset (Dc φ w) (fun _ _ _ _ d => d) y v (F b1) hdy
              rw [set_same hv] at this
              exact this
        · rename_i hc
          rw [if_neg hc] at stay; exact stay rfl

/-- Many of them. -/
def folds (h : H) : List (Nat × Nat × Nat) → H
  | [] => h
  | (b, i, o) :: r => folds (foldC h b i o) r
theorem Arr.folds (n0 : Nat) : ∀ (l : List (Nat × Nat × Nat)) (h : H), Arr n0 h (Go.W.folds h l) fun x x' => x' = x
  | [], h => (Arr.refl n0 h).mono fun x x' e => .inl e
  | (b, i, o) :: r, h => ((Arr.foldC n0 h b i o).trans (Arr.folds n0 r (Go.W.foldC h b i o))).mono fun x x' e => ⟨x, rfl, e⟩

end
end Go.W
