/- A layer for walking through code on abstract values, told apart by who owns the memory: its definitions and their soundness; no condition. -/
import Derived.Test.YtpcgnmoogjahbaaW26
set_option linter.unusedVariables false
set_option linter.unusedSimpArgs false
namespace Go.W
open Go Go.RowKit

/-! ### Loops that keep blocks of their own -/
theorem map_same {α : Type} {f : α → α} {l : List α} (h : ∀ x ∈ l, f x = x) : l.map f = l := by
  induction l with
  | nil => rfl
  | cons a l ih => simp only [List.map_cons, h a (by simp)]; rw [ih fun x hx => h x (by simp [hx])]
theorem nr_rn (r : Nat → Nat) : ∀ {x : V}, nr x = true → rnC r x = x := by
  intro x h; cases x <;> first | rfl | cases h
theorem nrs_rn (r : Nat → Nat) {B : Blk} (h : nrs B.els = true) : rnB r B = B := by
  obtain ⟨els, n, cap, l⟩ := B
  simp only [rnB, Blk.mk.injEq, and_true]
  simp only [nrs, List.all_eq_true] at h
  exact map_same fun el he => map_same fun x hx => nr_rn r (h el he x hx)
/-- The blocks l of h are those of h'. -/
def gcL (r : Nat → Nat) (h : H) : List Nat → H → Prop
  | [], [] => True
  | i :: l, B' :: h' => ((nrs B'.els = true ∧ h[i]? = some B') ∨ h[i]? = some (rnB r B')) ∧ gcL r h l h'
  | _, _ => False
theorem gcL_nil (r : Nat → Nat) (h : H) : gcL r h [] [] = True := rfl
theorem gcL_cons (r : Nat → Nat) (h : H) (i : Nat) (l : List Nat) (B' : Blk) (h' : H) : gcL r h (i :: l) (B' :: h') = (((nrs B'.els = true ∧ h[i]? = some B') ∨ h[i]? = some (rnB r B')) ∧ gcL r h l h') := rfl
theorem gcL_spec {r : Nat → Nat} {h : H} : ∀ {l : List Nat} {h' : H}, gcL r h l h' → l.length = h'.length ∧ ∀ (i : Nat) B', h'[i]? = some B' → ∃ b : Nat, l[i]? = some b ∧ h[b]? = some (rnB r B')
  | [], [], _ => ⟨rfl, fun i B' e => by simp at e⟩
  | [], _ :: _, h => h.elim
  | _ :: _, [], h => h.elim
  | b :: l, B' :: h', hg => by
    obtain ⟨h1, h2⟩ := gcL_spec hg.2
    refine ⟨by simp [h1], fun i B e => ?_⟩
    cases i with
    | zero =>
      simp at e; subst e
      refine ⟨b, rfl, ?_⟩
      rcases hg.1 with ⟨q1, q2⟩ | q
      · rw [nrs_rn r q1]; exact q2
      · exact q
    | succ i => simp at e ⊢; exact h2 i B e
theorem gcOk_of {l : List Nat} {h h' : H} (hn : l.Nodup) (hg : gcL (nm l h.length) h l h') : gcOk l h h' 0 := by
  obtain ⟨h1, h2⟩ := gcL_spec hg
  refine ⟨h1, hn, Nat.zero_le _, fun i hi => by omega, fun i B' e _ => ?_⟩
  obtain ⟨b, e1, e2⟩ := h2 i B' e
  exact ⟨_, by rw [show nm l h.length i = b by unfold nm; rw [e1]; rfl]; exact e2, rfl⟩

/-- The temporaries that are kept, by their later names. -/
def keepT (τ : Tau) (r : Nat → Nat) : List (Nat × V) → Prop
  | [] => True
  | (t, v) :: T => τ t = rnV r v ∧ keepT τ r T
theorem keepT_nil (τ : Tau) (r : Nat → Nat) : keepT τ r [] = True := rfl
theorem keepT_cons (τ : Tau) (r : Nat → Nat) (t : Nat) (v : V) (T : List (Nat × V)) : keepT τ r ((t, v) :: T) = (τ t = rnV r v ∧ keepT τ r T) := rfl
theorem keepT_spec {τ : Tau} {r : Nat → Nat} : ∀ {T : List (Nat × V)}, keepT τ r T → ∀ t, keepL T t = .any ∨ τ t = rnV r (keepL T t)
  | [], _, t => .inl rfl
  | (t', v) :: T, h, t => by
    simp only [keepL_cons]
    by_cases e : t = t'
    · subst e; rw [if_pos rfl]; exact .inr h.1
    · rw [if_neg e]; exact keepT_spec h.2 t

section
variable {C : Cx} {N m : Nat} {Q : QT} {k : List It} {τ : Tau} {h : H}
theorem Goes.own {K : Tau → H → Prop} (l : List Nat) (T : List (Nat × V)) (h' : H) (hn : l.Nodup) (hg : gcL (nm l h.length) h l h') (ht : keepT τ (nm l h.length) T) (hk : K (keepL T) h') : Goes 0 K τ h :=
  ⟨_, h', _, Arr.gc (gcOk_of hn hg), fun t => keepT_spec ht t, hk⟩

/-- What a round must come to. -/
def loopO (C : Cx) (N m : Nat) (Q : QT) (k : List It) (I : Tau → H → Prop) : QT
  | .normal, τ, h => I τ h
  | .exit id, τ, h => exitK (Run C N 0 m Q) Q id τ h (popTo id k)
  | .ret, τ, h => Q .ret τ h
  | .pan v, τ, h => Q (.pan v) τ h
theorem panFree_loopO {I : Tau → H → Prop} (hQ : PanFree Q) : PanFree (loopO C N m Q k I) := fun v τ τ' h q => hQ v τ τ' h q
theorem loopO_normal (I : Tau → H → Prop) : loopO C N m Q k I .normal τ h = I τ h := rfl
theorem loopO_exit (I : Tau → H → Prop) (id : Nat) : loopO C N m Q k I (.exit id) τ h = exitK (Run C N 0 m Q) Q id τ h (popTo id k) := rfl
theorem loopO_ret (I : Tau → H → Prop) : loopO C N m Q k I .ret τ h = Q .ret τ h := rfl
theorem loopO_pan (I : Tau → H → Prop) (v : V) : loopO C N m Q k I (.pan v) τ h = Q (.pan v) τ h := rfl

/-- l: the blocks that are kept (all of them, in the order of Hp). -/
theorem LoopThen.own {ι : Type} {body : Code} (P : ι → Prop) (T : ι → List (Nat × V)) (Hp : ι → H) (μ : ι → Nat) (m n : Nat)
    (h0 : ∃ i, P i ∧ ∃ l : List Nat, l.Nodup ∧ gcL (nm l h.length) h l (Hp i) ∧ keepT τ (nm l h.length) (T i))
    (hr : ∀ i, P i → Run C N 0 n (loopO C N m Q k fun τ' h' => ∃ j, (P j ∧ μ j < μ i) ∧ ∃ l : List Nat, l.Nodup ∧ gcL (nm l h'.length) h' l (Hp j) ∧ keepT τ' (nm l h'.length) (T j)) [.code body] (keepL (T i)) (Hp i)) : LoopThen C N 0 Q body k τ h := by
  classical
  intro hb hk
  let I : Tau → H → Prop := fun τ h => ∃ i, P i ∧ τ = keepL (T i) ∧ h = Hp i
  have nat_min : ∀ (p : Nat → Prop) (n : Nat), p n → ∃ n, p n ∧ ∀ m, p m → n ≤ m := by
    intro p n hn
    induction n using Nat.strongRecOn with
    | _ n ih =>
      by_cases q : ∃ m, m < n ∧ p m
      · obtain ⟨m, h1, h2⟩ := q; exact ih m h1 h2
      · exact ⟨n, hn, fun m hm => Nat.le_of_not_lt fun h => q ⟨m, h, hm⟩⟩
  let R : Tau → H → Nat → Prop := fun τ h n => ∃ i, P i ∧ τ = keepL (T i) ∧ h = Hp i ∧ μ i = n
  let M : Tau → H → Nat := fun τ h => if q : ∃ n, R τ h n then Classical.choose (nat_min (R τ h) _ (Classical.choose_spec q)) else 0
  have hM : ∀ τ h, I τ h → ∃ i, P i ∧ τ = keepL (T i) ∧ h = Hp i ∧ μ i = M τ h ∧ ∀ j, P j → τ = keepL (T j) → h = Hp j → M τ h ≤ μ j := by
    intro τ h ⟨i, h1, h2, h3⟩
    have q : ∃ n, R τ h n := ⟨μ i, i, h1, h2, h3, rfl⟩
    have e : M τ h = Classical.choose (nat_min (R τ h) _ (Classical.choose_spec q)) := dif_pos q
    have sp := Classical.choose_spec (nat_min (R τ h) _ (Classical.choose_spec q))
    rw [← e] at sp
    obtain ⟨⟨j, j1, j2, j3, j4⟩, j5⟩ := sp
    exact ⟨j, j1, j2, j3, j4, fun i' q1 q2 q3 => j5 (μ i') ⟨i', q1, q2, q3, rfl⟩⟩
  refine WC.loop I M ?_ fun τ h hI => ?_
  · obtain ⟨i, h1, l, h2, h3, h4⟩ := h0
    exact Goes.own l (T i) (Hp i) h2 h3 h4 ⟨i, h1, rfl, rfl⟩
  · obtain ⟨i, p1, e1, e2, e3, _⟩ := hM τ h hI
    subst e1; subst e2
    have := Run_sound n _ [.code body] (keepL (T i)) (Hp i) (by simp [itOk, hb]) (hr i p1)
    refine WC.mono this fun x τ' h' q => ?_
    cases x with
    | normal =>
      obtain ⟨j, ⟨q1, q2⟩, l, q3, q4, q5⟩ := q
      refine Goes.own l (T j) (Hp j) q3 q4 q5 ⟨⟨j, q1, rfl, rfl⟩, ?_⟩
      obtain ⟨j', _, _, _, _, r4⟩ := hM (keepL (T j)) (Hp j) ⟨j, q1, rfl, rfl⟩
      have := r4 j q1 rfl rfl
      omega
    | exit id =>
      refine semK_exit ?_
      simp only [SemK, loopO] at q
      cases hp : popTo id k with
      | none => rw [hp] at q; exact q
      | some k' => rw [hp] at q; exact Run_sound m Q k' τ' h' (popTo_ok hp hk) q
    | ret => exact semK_ret q
    | pan v => exact semK_pan q
end

/-! ### Lists -/
theorem nrs_map {α : Type} {f : α → List V} (hf : ∀ a, (f a).all nr = true) (l : List α) : nrs (l.map f) = true := by
  simp only [nrs, List.all_map, List.all_eq_true]; exact fun a _ => hf a
theorem nrs_append (a b : List (List V)) : nrs (a ++ b) = (nrs a && nrs b) := by simp [nrs]
theorem nrs_replicate {el : List V} (h : el.all nr = true) (n : Nat) : nrs (List.replicate n el) = true := by
  simp only [nrs, List.all_eq_true, List.mem_replicate]; rintro x ⟨_, rfl⟩; simpa using h
/-- A row that's filled from the left. -/
theorem fill_get {α : Type} (a b : List α) {i : Nat} (h : a.length = i) : (a ++ b)[i]? = b[0]? := by
  subst h; rw [List.getElem?_append_right (by omega)]; simp
theorem fill_set {α : Type} (a : List α) (x y : α) (n i : Nat) (h : a.length = i) : (a ++ List.replicate (n + 1) y).set i x = (a ++ [x]) ++ List.replicate n y := by
  subst h; rw [List.set_append_right _ _ (Nat.le_refl _)]; simp [List.replicate_succ]
theorem leafs_map {α : Type} {f : α → List V} (hf : ∀ a, (f a).all cellOk = true) (l : List α) : leafs (l.map f) = true := by
  simp only [leafs, List.all_map, List.all_eq_true]; exact fun a _ => hf a
/-- What's frozen of elements that refer to nothing is themselves. -/
theorem frz_nr {n0 d : Nat} {h : H} {x : V} (hx : nr x = true) (hc : cellOk x = true) : frz n0 d h x = x := by
  cases x <;> first | (cases hx; done) | (cases hc; done) | (cases d <;> rfl)
theorem frz_els {n0 d : Nat} {h : H} {els : List (List V)} (hx : nrs els = true) (hc : leafs els = true) : (els.map fun el => el.map (frz n0 d h)) = els := by
  simp only [nrs, leafs, List.all_eq_true] at hx hc
  exact map_same fun el he => map_same fun x hx' => frz_nr (hx el he x hx') (hc el he x hx')
theorem take_map_len {α β : Type} (f : α → β) (l : List α) : List.take l.length (l.map f) = l.map f := List.take_of_length_le (by simp)
set_option linter.all false in
noncomputable def WB5 := And.intro (And.intro (And.intro Nat.le_refl Int.le_refl) (And.intro true_or (And.intro or_true @take_map_len))) <| And.intro (And.intro (And.intro gcL_nil gcL_cons) (And.intro keepT_nil keepT_cons)) (And.intro (And.intro @loopO_normal @loopO_exit) (And.intro @loopO_ret @loopO_pan))
end Go.W
