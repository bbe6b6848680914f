/- A layer for walking through code on abstract values and an abstract heap: its definitions and their soundness; no condition. -/
import Derived.Test.YtpcgnmoogjahbaaVA
import Derived.Laws.AppendOwn
set_option linter.unusedVariables false
set_option linter.unusedSimpArgs false
namespace Go.VL
open Go Go.RowKit

theorem cell_block {w w' : World} {k i : Nat} (h : w'.heap[k]? = w.heap[k]?) : w'.cell? ⟨k, i, none⟩ = w.cell? ⟨k, i, none⟩ := by
  unfold World.cell?; simp only [h]

theorem seen_lt {B : Nat} {φ : Phi} {w : World} {b : Nat} {k : Blk} (h : BlkRel B φ w b k) (hs : k.seen) {blk base : Nat} (hb : φ b = some (blk, base)) : blk < w.heap.size := by
  rcases hs with hs | ⟨hs, hne⟩
  · simp only [BlkRel, hs] at h
    obtain ⟨blk', c, h1, h2, h3, _⟩ := h
    rw [hb] at h1; obtain ⟨rfl, -⟩ := Prod.mk.inj (Option.some.inj h1)
    exact (Array.getElem?_eq_some_iff.1 h3).1
  · simp only [BlkRel, hs] at h
    obtain ⟨blk', base', h1, h2⟩ := h
    rw [hb] at h1; obtain ⟨rfl, rfl⟩ := Prod.mk.inj (Option.some.inj h1)
    cases hc : k.cells with
    | nil => exact absurd hc hne
    | cons x l =>
      obtain ⟨c, h3, _⟩ := h2 0 x (by rw [hc]; rfl)
      exact World.block_lt_of_cell? _ _ h3

theorem BlkRel.keep {B : Nat} {φ φ' : Phi} {w w' : World} {b : Nat} {k : Blk} (h : BlkRel B φ w b k) (he : Ext φ φ')
    (hw : k.seen → ∀ blk base, φ b = some (blk, base) → w'.heap[blk]? = w.heap[blk]?) : BlkRel B φ' w' b k := by
  unfold BlkRel at *
  cases hs : k.st with
  | dead => trivial
  | ro =>
    simp only [hs] at h
    obtain ⟨blk, base, h1, h2⟩ := h
    refine ⟨blk, base, he _ _ h1, fun i x hx => ?_⟩
    obtain ⟨c, h3, h4⟩ := h2 i x hx
    have hne : k.cells ≠ [] := by intro e; rw [e] at hx; simp at hx
    rw [cell_block (hw (.inr ⟨hs, hne⟩) blk base h1)]
    exact ⟨c, h3, h4.ext he⟩
  | own =>
    simp only [hs] at h
    obtain ⟨blk, c, h1, h2, h3, h4, h6⟩ := h
    refine ⟨blk, c, he _ _ h1, h2, ?_, h4, fun i x hx => ?_⟩
    · rw [hw (.inl hs) blk 0 h1]; exact h3
    · obtain ⟨v, h7, h8⟩ := h6 i x hx; exact ⟨v, h7, h8.ext he⟩

def phiPush (φ : Phi) (n : Nat) (p : Nat × Nat) : Phi := fun b => if b = n then some p else φ b

theorem phiPush_ext {φ : Phi} {n : Nat} {p : Nat × Nat} (h : φ n = none) : Ext φ (phiPush φ n p) := by
  intro b q hq
  unfold phiPush
  by_cases e : b = n
  · subst e; rw [h] at hq; cases hq
  · rw [if_neg e]; exact hq

variable {B : Nat} {w0 : World} {φ : Phi} {h : H} {w w' : World}

/-- Nothing that stood has turned. -/
theorem Rel.grow (R : Rel B w0 φ h w) (g : w.grownBy w' none) : Rel B w0 φ h w' :=
  ⟨R.below.grown g R.base (fun k e => by cases e), Nat.le_trans R.base g.size, R.dom,
   fun b hb => (R.blk b hb).keep (Ext.refl φ) fun hs blk base e => g.block blk (seen_lt (R.blk b hb) hs e) (by simp), R.sep⟩

/-- A new block. -/
theorem Rel.alloc (R : Rel B w0 φ h w) (g : w.grownBy w' none) {j : Nat} (hj : w.heap.size ≤ j) {c : Array Value} {ty : TypeId}
    (hc : w'.heap[j]? = some (.cells c ty (0, 0))) {cells : List V}
    (hx : ∀ (i : Nat) (x : V), cells[i]? = some x → ∃ v, c[i]? = some v ∧ RelC φ x v) :
    Rel B w0 (phiPush φ h.n (j, 0)) (h.push ⟨cells, c.size, ty, .own⟩) w' ∧ Ext φ (phiPush φ h.n (j, 0)) := by
  have hn : φ h.n = none := R.dom _ (Nat.le_refl _)
  have he : Ext φ (phiPush φ h.n (j, 0)) := phiPush_ext hn
  have old : ∀ b, b < h.n → phiPush φ h.n (j, 0) b = φ b := fun b hb => by unfold phiPush; rw [if_neg (by omega)]
  have new : phiPush φ h.n (j, 0) h.n = some (j, 0) := by unfold phiPush; rw [if_pos rfl]
  have gold : ∀ b, b < h.n → (h.push ⟨cells, c.size, ty, .own⟩).get b = h.get b := fun b hb => by simp only [H.push]; rw [if_neg (by omega)]
  have gnew : (h.push ⟨cells, c.size, ty, .own⟩).get h.n = ⟨cells, c.size, ty, .own⟩ := by simp [H.push]
  refine ⟨⟨R.below.grown g R.base (fun k e => by cases e), Nat.le_trans R.base g.size, ?_, ?_, ?_⟩, he⟩
  · intro b hb
    simp only [H.push] at hb
    unfold phiPush; rw [if_neg (by omega)]; exact R.dom b (by omega)
  · intro b hb
    simp only [H.push] at hb
    by_cases e : b = h.n
    · subst e
      rw [gnew]
      exact ⟨j, c, new, Nat.le_trans R.base hj, hc, rfl, fun i x hx' => by obtain ⟨v, h1, h2⟩ := hx i x hx'; exact ⟨v, h1, h2.ext he⟩⟩
    · rw [gold b (by omega)]
      exact (R.blk b (by omega)).keep he fun hs blk base e' => g.block blk (seen_lt (R.blk b (by omega)) hs e') (by simp)
  · intro b b' k i k' i' hb hb' hne hown hseen e1 e2
    simp only [H.push] at hb hb'
    by_cases h1 : b = h.n
    · subst h1
      rw [new] at e1; obtain ⟨rfl, rfl⟩ := Prod.mk.inj (Option.some.inj e1)
      have hb'' : b' < h.n := by omega
      rw [old b' hb''] at e2; rw [gold b' hb''] at hseen
      have := seen_lt (R.blk b' hb'') hseen e2
      omega
    · have hb1 : b < h.n := by omega
      rw [old b hb1] at e1; rw [gold b hb1] at hown
      by_cases h2 : b' = h.n
      · subst h2
        rw [new] at e2; obtain ⟨rfl, rfl⟩ := Prod.mk.inj (Option.some.inj e2)
        have := seen_lt (R.blk b hb1) (.inl hown) e1
        omega
      · have hb2 : b' < h.n := by omega
        rw [old b' hb2] at e2; rw [gold b' hb2] at hseen
        exact R.sep b b' k i k' i' hb1 hb2 hne hown hseen e1 e2

theorem own_place (R : Rel B w0 φ h w) {b : Nat} (ho : (h.get b).st = .own) (hb : b < h.n) :
    ∃ k c, φ b = some (k, 0) ∧ B ≤ k ∧ w.heap[k]? = some (.cells c (h.get b).ty (0, 0)) ∧ c.size = (h.get b).total ∧
      ∀ (i : Nat) (x : V), (h.get b).cells[i]? = some x → ∃ v, c[i]? = some v ∧ RelC φ x v := by
  have := R.blk b hb
  simp only [BlkRel, ho] at this
  exact this

/-- A block of one's own is written. -/
theorem Rel.write (R : Rel B w0 φ h w) {b k : Nat} (hb : b < h.n) (ho : (h.get b).st = .own) (hk : φ b = some (k, 0)) (g : w.grownBy w' (some k))
    {c : Array Value} {ty : TypeId} (hc : w'.heap[k]? = some (.cells c ty (0, 0))) {cells : List V}
    (hx : ∀ (i : Nat) (x : V), cells[i]? = some x → ∃ v, c[i]? = some v ∧ RelC φ x v) :
    Rel B w0 φ (h.set b ⟨cells, c.size, ty, .own⟩) w' := by
  obtain ⟨k', c', p1, p2, p3, p4, p6⟩ := own_place R ho hb
  rw [hk] at p1; obtain ⟨rfl, -⟩ := Prod.mk.inj (Option.some.inj p1)
  have gnew : (h.set b ⟨cells, c.size, ty, .own⟩).get b = ⟨cells, c.size, ty, .own⟩ := by simp [H.set]
  have gold : ∀ b', b' ≠ b → (h.set b ⟨cells, c.size, ty, .own⟩).get b' = h.get b' := fun b' hb' => by simp only [H.set]; rw [if_neg hb']
  refine ⟨R.below.grown g R.base (fun j e => by cases e; exact p2), Nat.le_trans R.base g.size, R.dom, ?_, ?_⟩
  · intro b' hb'
    by_cases e : b' = b
    · subst e; rw [gnew]; exact ⟨k, c, hk, p2, hc, rfl, hx⟩
    · rw [gold b' e]
      exact (R.blk b' hb').keep (Ext.refl φ) fun hs blk base e' =>
        g.block blk (seen_lt (R.blk b' hb') hs e') (fun e2 => R.sep b b' k 0 blk base hb hb' (Ne.symm e) ho hs hk e' (Option.some.inj e2).symm)
  · intro b1 b2 k1 i1 k2 i2 h1 h2 hne hown hseen e1 e2
    have h1' : (h.get b1).st = .own := by
      by_cases e : b1 = b
      · subst e; exact ho
      · rw [gold b1 e] at hown; exact hown
    have h2' : (h.get b2).seen := by
      by_cases e : b2 = b
      · subst e; exact .inl ho
      · rw [gold b2 e] at hseen; exact hseen
    exact R.sep b1 b2 k1 i1 k2 i2 h1 h2 hne h1' h2' e1 e2

/-- A block is given up. -/
theorem Rel.kill (R : Rel B w0 φ h w) (b : Nat) : Rel B w0 φ (h.set b Blk.none) w := by
  have gold : ∀ b', b' ≠ b → (h.set b Blk.none).get b' = h.get b' := fun b' hb' => by simp only [H.set]; rw [if_neg hb']
  have gnew : (h.set b Blk.none).get b = Blk.none := by simp [H.set]
  refine ⟨R.below, R.base, R.dom, ?_, ?_⟩
  · intro b' hb'
    by_cases e : b' = b
    · subst e; rw [gnew]; trivial
    · rw [gold b' e]; exact R.blk b' hb'
  · intro b1 b2 k1 i1 k2 i2 h1 h2 hne hown hseen e1 e2
    have n1 : b1 ≠ b := fun e => by subst e; rw [gnew] at hown; cases hown
    have n2 : b2 ≠ b := fun e => by subst e; rw [gnew] at hseen; rcases hseen with hs | ⟨hs, _⟩ <;> cases hs
    rw [gold b1 n1] at hown; rw [gold b2 n2] at hseen
    exact R.sep b1 b2 k1 i1 k2 i2 h1 h2 hne hown hseen e1 e2

/-- A block of one's own takes a new name, and the old name is given up. -/
theorem Rel.rename (R : Rel B w0 φ h w) {b k : Nat} (hb : b < h.n) (ho : (h.get b).st = .own) (hk : φ b = some (k, 0)) :
    Rel B w0 (phiPush φ h.n (k, 0)) ((h.set b Blk.none).push (h.get b)) w ∧ Ext φ (phiPush φ h.n (k, 0)) := by
  have hn : φ h.n = none := R.dom _ (Nat.le_refl _)
  have he : Ext φ (phiPush φ h.n (k, 0)) := phiPush_ext hn
  have old : ∀ b, b < h.n → phiPush φ h.n (k, 0) b = φ b := fun b hb => by unfold phiPush; rw [if_neg (by omega)]
  have new : phiPush φ h.n (k, 0) h.n = some (k, 0) := by unfold phiPush; rw [if_pos rfl]
  have gnew : ((h.set b Blk.none).push (h.get b)).get h.n = h.get b := by simp [H.push, H.set]
  have gb : ((h.set b Blk.none).push (h.get b)).get b = Blk.none := by simp only [H.push, H.set]; rw [if_neg (by omega)]; simp
  have gold : ∀ b', b' < h.n → b' ≠ b → ((h.set b Blk.none).push (h.get b)).get b' = h.get b' := fun b' hb' hne => by
    have h1 : b' ≠ h.n := by omega
    simp [H.push, H.set, hne, h1]
  refine ⟨⟨R.below, R.base, ?_, ?_, ?_⟩, he⟩
  · intro b' hb'
    simp only [H.push, H.set] at hb'
    unfold phiPush; rw [if_neg (by omega)]; exact R.dom b' (by omega)
  · intro b' hb'
    simp only [H.push, H.set] at hb'
    by_cases e : b' = h.n
    · subst e
      rw [gnew]
      obtain ⟨k', c, p1, p2, p3, p4, p6⟩ := own_place R ho hb
      rw [hk] at p1; obtain ⟨rfl, -⟩ := Prod.mk.inj (Option.some.inj p1)
      simp only [BlkRel, ho]
      exact ⟨k, c, new, p2, p3, p4, fun i x hx => by obtain ⟨v, q1, q2⟩ := p6 i x hx; exact ⟨v, q1, q2.ext he⟩⟩
    · by_cases e2 : b' = b
      · subst e2; rw [gb]; trivial
      · rw [gold b' (by omega) e2]; exact (R.blk b' (by omega)).keep he fun _ _ _ _ => rfl
  · intro b1 b2 k1 i1 k2 i2 h1 h2 hne hown hseen e1 e2
    simp only [H.push, H.set] at h1 h2
    have n1 : b1 ≠ b := fun e => by subst e; rw [gb] at hown; cases hown
    have n2 : b2 ≠ b := fun e => by subst e; rw [gb] at hseen; rcases hseen with hs | ⟨hs, _⟩ <;> cases hs
    by_cases q1 : b1 = h.n
    · subst q1
      rw [new] at e1; obtain ⟨rfl, rfl⟩ := Prod.mk.inj (Option.some.inj e1)
      have hb2 : b2 < h.n := by omega
      rw [old b2 hb2] at e2; rw [gold b2 hb2 n2] at hseen
      exact R.sep b b2 k 0 k2 i2 hb hb2 (Ne.symm n2) ho hseen hk e2
    · have hb1 : b1 < h.n := by omega
      rw [old b1 hb1] at e1; rw [gold b1 hb1 n1] at hown
      by_cases q2 : b2 = h.n
      · subst q2
        rw [new] at e2; obtain ⟨rfl, rfl⟩ := Prod.mk.inj (Option.some.inj e2)
        exact R.sep b1 b k1 i1 k 0 hb1 hb n1 hown (.inl ho) e1 hk
      · have hb2 : b2 < h.n := by omega
        rw [old b2 hb2] at e2; rw [gold b2 hb2 n2] at hseen
        exact R.sep b1 b2 k1 i1 k2 i2 hb1 hb2 hne hown hseen e1 e2

end Go.VL
