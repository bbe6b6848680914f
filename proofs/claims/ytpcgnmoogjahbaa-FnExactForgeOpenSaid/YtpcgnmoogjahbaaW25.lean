/- A layer for walking through code on abstract values, told apart by who owns the memory: its definitions and their soundness; no condition. -/
import Derived.Test.YtpcgnmoogjahbaaW24
set_option linter.unusedVariables false
set_option linter.unusedSimpArgs false
namespace Go.W
open Go Go.RowKit

/-! ### Loops that keep nothing of their own -/
/-- Temporaries that are told; of the others nothing is known. -/
def keepL : List (Nat × V) → Tau
  | [], _ => .any
  | (t, v) :: r, i => if i = t then v else keepL r i
theorem keepL_cons (t : Nat) (v : V) (r : List (Nat × V)) (i : Nat) : keepL ((t, v) :: r) i = if i = t then v else keepL r i := rfl
theorem keepL_nil (i : Nat) : keepL [] i = .any := rfl
/-- Temporaries as what stays. -/
def keepR (d : Nat) (h : H) (τ : Tau) : List Nat → List (Nat × V)
  | [] => []
  | t :: ks => (t, Go.W.frz 0 d h (τ t)) :: keepR d h τ ks
theorem keepR_nil (d : Nat) (h : H) (τ : Tau) : keepR d h τ [] = [] := rfl
theorem keepR_cons (d : Nat) (h : H) (τ : Tau) (t : Nat) (ks : List Nat) : keepR d h τ (t :: ks) = (t, Go.W.frz 0 d h (τ t)) :: keepR d h τ ks := rfl
theorem keepR_map (d : Nat) (h : H) (τ : Tau) : ∀ ks, keepR d h τ ks = ks.map fun t => (t, Go.W.frz 0 d h (τ t))
  | [] => rfl
  | t :: ks => by simp [keepR, keepR_map d h τ ks]
theorem keepL_map (g : Nat → V) : ∀ (ks : List Nat) (t : Nat), keepL (ks.map fun t => (t, g t)) t = if t ∈ ks then g t else .any
  | [], t => by simp [keepL]
  | k :: ks, t => by
    simp only [List.map_cons, keepL_cons, keepL_map g ks t]
    by_cases e : t = k
    · subst e; simp
    · simp [e]

section
variable {C : Cx} {N m : Nat} {Q : QT} {k : List It} {τ : Tau} {h : H}
theorem Arr.pure (h : H) (d : Nat) : Arr 0 h [] fun x x' => x' = .any ∨ x' = Go.W.frz 0 d h x := by
  refine ((Arr.frz (h := h) (n0 := 0) d).trans (Arr.gc (l := []) (h' := []) ?_)).mono fun x x' e => ?_
  · exact ⟨rfl, List.nodup_nil, Nat.le_refl _, fun i hi => by omega, fun i B' hB => by simp at hB⟩
  · rcases e with e | e
    · exact ⟨x, .inl rfl, .inl e⟩
    · subst e; exact ⟨_, .inr rfl, .inr (frz_closed _ 0 h d x).2.2.2.symm⟩
theorem Goes.pure {K : Tau → H → Prop} (d : Nat) (ks : List Nat) (hk : K (keepL (keepR d h τ ks)) []) : Goes 0 K τ h := by
  refine ⟨_, [], _, Arr.pure h d, fun t => ?_, hk⟩
  rw [keepR_map, keepL_map (fun t => Go.W.frz 0 d h (τ t))]
  split
  · exact .inr rfl
  · exact .inl rfl

/-- What a round must come to: d: how deep one freezes; ks: the temporaries that are kept. -/
def loopP (C : Cx) (N m : Nat) (Q : QT) (k : List It) (d : Nat) (ks : List Nat) (I : Tau → Prop) : QT
  | .normal, τ, h => I (keepL (keepR d h τ ks))
  | .exit id, τ, h => exitK (Run C N 0 m Q) Q id τ h (popTo id k)
  | .ret, τ, h => Q .ret τ h
  | .pan v, τ, h => Q (.pan v) τ h
theorem panFree_loopP {d : Nat} {ks : List Nat} {I : Tau → Prop} (hQ : PanFree Q) : PanFree (loopP C N m Q k d ks I) := fun v τ τ' h q => hQ v τ τ' h q

theorem LoopThen.pure {ι : Type} {body : Code} (P : ι → Prop) (T : ι → Tau) (μ : ι → Nat) (d : Nat) (ks : List Nat) (m n : Nat)
    (h0 : ∃ i, P i ∧ keepL (keepR d h τ ks) = T i)
    (hr : ∀ i, P i → Run C N 0 n (loopP C N m Q k d ks fun τ' => ∃ j, (P j ∧ μ j < μ i) ∧ τ' = T j) [.code body] (T i) []) : LoopThen C N 0 Q body k τ h := by
  classical
  intro hb hk
  -- the measure of a state: the least of those that it can be told by
  let I : Tau → H → Prop := fun τ h => ∃ i, P i ∧ τ = T i ∧ h = []
  have nat_min : ∀ (p : Nat → Prop) (n : Nat), p n → ∃ n, p n ∧ ∀ m, p m → n ≤ m := by
    intro p n hn
    induction n using Nat.strongRecOn with
    | _ n ih =>
      by_cases q : ∃ m, m < n ∧ p m
      · obtain ⟨m, h1, h2⟩ := q; exact ih m h1 h2
      · exact ⟨n, hn, fun m hm => Nat.le_of_not_lt fun h => q ⟨m, h, hm⟩⟩
  let M : Tau → H → Nat := fun τ h => if q : ∃ n, ∃ i, P i ∧ τ = T i ∧ μ i = n then Classical.choose (nat_min (fun n => ∃ i, P i ∧ τ = T i ∧ μ i = n) _ (Classical.choose_spec q)) else 0
  have hM : ∀ τ h, (∃ i, P i ∧ τ = T i) → ∃ i, P i ∧ τ = T i ∧ μ i = M τ h ∧ ∀ j, P j → τ = T j → M τ h ≤ μ j := by
    intro τ h ⟨i, h1, h2⟩
    have q : ∃ n, ∃ i, P i ∧ τ = T i ∧ μ i = n := ⟨μ i, i, h1, h2, rfl⟩
    have e : M τ h = Classical.choose (nat_min (fun n => ∃ i, P i ∧ τ = T i ∧ μ i = n) _ (Classical.choose_spec q)) := dif_pos q
    have sp := Classical.choose_spec (nat_min (fun n => ∃ i, P i ∧ τ = T i ∧ μ i = n) _ (Classical.choose_spec q))
    rw [← e] at sp
    obtain ⟨⟨j, j1, j2, j3⟩, j4⟩ := sp
    exact ⟨j, j1, j2, j3, fun i' q1 q2 => j4 (μ i') ⟨i', q1, q2, rfl⟩⟩
  refine WC.loop I M ?_ fun τ h hI => ?_
  · obtain ⟨i, h1, h2⟩ := h0
    exact Goes.pure d ks ⟨i, h1, h2, rfl⟩
  · obtain ⟨i0, p0, e0, rfl⟩ := hI
    obtain ⟨i, p1, e1, e2, _⟩ := hM τ [] ⟨i0, p0, e0⟩
    subst e1
    have := Run_sound n _ [.code body] (T i) [] (by simp [itOk, hb]) (hr i p1)
    refine WC.mono this fun x τ' h' q => ?_
    cases x with
    | normal =>
      obtain ⟨j, ⟨q1, q2⟩, q3⟩ := q
      refine Goes.pure d ks ⟨⟨j, q1, q3, rfl⟩, ?_⟩
      obtain ⟨j', _, _, _, r4⟩ := hM (keepL (keepR d h' τ' ks)) [] ⟨j, q1, q3⟩
      have := r4 j q1 q3
      omega
    | exit id =>
      refine semK_exit ?_
      simp only [SemK, loopP] at q
      cases hp : popTo id k with
      | none => rw [hp] at q; exact q
      | some k' => rw [hp] at q; exact Run_sound m Q k' τ' h' (popTo_ok hp hk) q
    | ret => exact semK_ret q
    | pan v => exact semK_pan q

theorem loopP_normal (d : Nat) (ks : List Nat) (I : Tau → Prop) : loopP C N m Q k d ks I .normal τ h = I (keepL (keepR d h τ ks)) := rfl
theorem loopP_exit (d : Nat) (ks : List Nat) (I : Tau → Prop) (id : Nat) : loopP C N m Q k d ks I (.exit id) τ h = exitK (Run C N 0 m Q) Q id τ h (popTo id k) := rfl
theorem loopP_ret (d : Nat) (ks : List Nat) (I : Tau → Prop) : loopP C N m Q k d ks I .ret τ h = Q .ret τ h := rfl
theorem loopP_pan (d : Nat) (ks : List Nat) (I : Tau → Prop) (v : V) : loopP C N m Q k d ks I (.pan v) τ h = Q (.pan v) τ h := rfl
end
theorem dec_true : decide True = true := by simp
theorem dec_false : decide False = false := by simp
theorem drop_cons {α : Type} {l : List α} {i : Nat} {a : α} (h : l[i]? = some a) : l.drop i = a :: l.drop (i + 1) := by
  obtain ⟨h1, h2⟩ := List.getElem?_eq_some_iff.1 h
  rw [List.drop_eq_getElem_cons h1, h2]
theorem get_lt {α : Type} {l : List α} {i : Nat} (h : (i : Int) < (l.length : Nat)) : ∃ a, l[i]? = some a := ⟨l[i]'(by omega), List.getElem?_eq_getElem (by omega)⟩
theorem cast_succ (i : Nat) : (i : Int) + 1 = ((i + 1 : Nat) : Int) := by omega
set_option linter.all false in
noncomputable def WB4 := And.intro (And.intro dec_true dec_false) <| And.intro (And.intro (And.intro keepL_cons keepL_nil) (And.intro keepR_cons keepR_nil)) (And.intro (And.intro @loopP_normal @loopP_exit) (And.intro @loopP_ret @loopP_pan))
end Go.W
