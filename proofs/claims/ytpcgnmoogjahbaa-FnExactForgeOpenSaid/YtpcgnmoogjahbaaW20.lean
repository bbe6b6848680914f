/- A layer for walking through code on abstract values, told apart by who owns the memory: its definitions and their soundness; no condition. -/
import Derived.Test.YtpcgnmoogjahbaaW19
set_option linter.unusedVariables false
set_option linter.unusedSimpArgs false
namespace Go.W
open Go Go.RowKit

/-! ### Blocks that are kept out of sight -/
def hid (n : Nat) (exc : List Nat) (i : Nat) : Bool := decide (i < n) && !exc.contains i
def mask (n : Nat) (exc : List Nat) : Nat → H → H
  | _, [] => []
  | i, B :: h => (if hid n exc i = true then Blk.dead else B) :: mask n exc (i + 1) h
def unmask (n : Nat) (exc : List Nat) : Nat → H → H → H
  | _, [], h' => h'
  | _, _ :: _, [] => []
  | i, B :: h, B' :: h' => (if hid n exc i = true then B else B') :: unmask n exc (i + 1) h h'

theorem mask_len {n : Nat} {exc : List Nat} : ∀ (i : Nat) (h : H), (mask n exc i h).length = h.length
  | _, [] => rfl
  | i, B :: h => by simp [mask, mask_len (i + 1) h]
theorem unmask_len {n : Nat} {exc : List Nat} : ∀ (i : Nat) (h h' : H), h.length ≤ h'.length → (unmask n exc i h h').length = h'.length
  | _, [], h', _ => rfl
  | i, B :: h, [], hl => by simp at hl
  | i, B :: h, B' :: h', hl => by simp [unmask, unmask_len (i + 1) h h' (by simpa using hl)]
theorem mask_get {n : Nat} {exc : List Nat} : ∀ (i : Nat) (h : H) (j : Nat), (mask n exc i h)[j]? = (h[j]?).map fun B => if hid n exc (i + j) = true then Blk.dead else B
  | _, [], j => by simp [mask]
  | i, B :: h, 0 => by simp [mask]
  | i, B :: h, j + 1 => by simp only [mask, List.getElem?_cons_succ]; rw [mask_get (i + 1) h j, show i + 1 + j = i + (j + 1) by omega]
theorem unmask_get {n : Nat} {exc : List Nat} : ∀ (i : Nat) (h h' : H) (j : Nat), h.length ≤ h'.length → (unmask n exc i h h')[j]? = if j < h.length ∧ hid n exc (i + j) = true then h[j]? else h'[j]?
  | _, [], h', j, _ => by simp [unmask]
  | i, B :: h, [], j, hl => by simp at hl
  | i, B :: h, B' :: h', 0, hl => by simp only [unmask, List.getElem?_cons_zero]; by_cases q : hid n exc i = true <;> simp [q]
  | i, B :: h, B' :: h', j + 1, hl => by
    simp only [unmask, List.getElem?_cons_succ]
    rw [unmask_get (i + 1) h h' j (by simpa using hl), show i + 1 + j = i + (j + 1) by omega]
    simp

section
variable {S : Nat → Prop} {w0 w : World} {φ : Phi} {h : H}

/-- What's out of sight stays as it is. -/
theorem Rel.hide (R : Rel S w0 φ h w) (n : Nat) (exc : List Nat) : ∃ S1 : Nat → Prop, Rel S1 w φ (mask n exc 0 h) w ∧
    ∀ φ' h' w', Rel S1 w φ' h' w' → ExtN S1 w h.length φ φ' → h.length ≤ h'.length →
      Rel S w0 φ' (unmask n exc 0 h h') w' ∧ ExtN S w0 h.length φ φ' ∧ ∀ b k m, b < h.length → hid n exc b = true → φ.m b = some (some k, m) → (∃ B, h[b]? = some B ∧ B.live = true) → w'.heap[k]? = w.heap[k]? := by
  obtain ⟨F, R⟩ := R
  let F1 : Nat → Fp := fun b => if hid n exc b = true then [] else F b
  let S1 : Nat → Prop := fun k => ∃ b, k ∈ F1 b
  have hF1 : ∀ b k, k ∈ F1 b → hid n exc b = false ∧ k ∈ F b := fun b k hk => by
    simp only [F1] at hk
    split at hk
    · simp at hk
    · rename_i q; exact ⟨by simpa using q, hk⟩
  have hS1 : ∀ k, S1 k → Mine S w0 k ∧ k < w.heap.size := fun k ⟨b, hk⟩ => R.mine b k (hF1 b k hk).2
  refine ⟨S1, ⟨F1, Kept.refl _ _, fun b hb => R.dom b (by rw [mask_len] at hb; exact hb), R.zok, fun b k o hk => R.znot b k o (hF1 b k hk).2, fun b k hk => ⟨.inl ⟨b, hk⟩, (R.mine b k (hF1 b k hk).2).2⟩, fun b => ?_,
    fun b b' k hk hk' => R.disj b b' k (hF1 b k hk).2 (hF1 b' k hk').2, fun b hb => ?_, fun b B hB => ?_⟩, ?_⟩
  · simp only [F1]; split
    · exact List.nodup_nil
    · exact R.nodup b
  · simp only [F1]; split
    · rfl
    · exact R.out b (by rw [mask_len] at hb; exact hb)
  · rw [mask_get, Nat.zero_add] at hB
    simp only [Option.map_eq_some_iff] at hB
    obtain ⟨B0, hB0, hB⟩ := hB
    simp only [F1]
    split at hB
    · rename_i q; rw [if_pos q]; subst hB
      unfold BlkRel; rw [if_neg (by simp [Blk.dead])]
    · rename_i q; rw [if_neg q]; subst hB; exact R.blk b _ hB0
  intro φ' h' w' ⟨F', R'⟩ E hl
  have hS' : ∀ k, Mine S1 w k → Mine S w0 k := fun k hk => by
    rcases hk with q | q
    · exact (hS1 k q).1
    · exact .inr (Nat.le_trans R.kept.size q)
  have hfree : ∀ b, hid n exc b = true → ∀ k ∈ F b, ¬ Mine S1 w k := fun b hb k hk hm => by
    rcases hm with ⟨b', q⟩ | q
    · obtain ⟨q1, q2⟩ := hF1 b' k q
      have := R.disj b b' k hk q2
      subst this
      rw [hb] at q1; cases q1
    · have := (R.mine b k hk).2; omega
  have hkeep : ∀ b, hid n exc b = true → ∀ k ∈ F b, w'.heap[k]? = w.heap[k]? := fun b hb k hk =>
    R'.kept.block k (R.mine b k hk).2 fun hq => hfree b hb k hk (.inl hq)
  let c : Nat → Bool := fun b => decide (b < h.length) && hid n exc b
  have hc : ∀ b, c b = true ↔ b < h.length ∧ hid n exc b = true := fun b => by simp [c]
  let F2 : Nat → Fp := fun b => if c b = true then F b else F' b
  have hF2 : ∀ b k, k ∈ F2 b → (c b = true ∧ k ∈ F b) ∨ (c b = false ∧ k ∈ F' b) := fun b k hk => by
    simp only [F2] at hk
    split at hk
    · rename_i q; exact .inl ⟨q, hk⟩
    · rename_i q; exact .inr ⟨by simpa using q, hk⟩
  refine ⟨⟨F2, ?_, fun b hb => ?_, R'.zok, fun b k o hk => ?_, fun b k hk => ?_, fun b => ?_, fun b b' k hk hk' => ?_, fun b hb => ?_, fun b B hB => ?_⟩, ⟨E.m, E.z, fun k o v e => ?_⟩, fun b k m hb hh hm hlv => ?_⟩
  · have k1 := R'.kept
    refine ⟨k1.os.trans R.kept.os, k1.tape.trans R.kept.tape, k1.output.trans R.kept.output, Nat.le_trans R.kept.size k1.size, fun j hj hs => ?_⟩
    rw [k1.block j (Nat.lt_of_lt_of_le hj R.kept.size) fun hq => ?_]
    · exact R.kept.block j hj hs
    · rcases (hS1 j hq).1 with q | q
      · exact hs q
      · omega
  · rw [unmask_len 0 h h' hl] at hb; exact R'.dom b hb
  · rcases hF2 b k hk with ⟨q1, q2⟩ | ⟨q1, q2⟩
    · cases hz : φ'.z k o with
      | none => rfl
      | some v =>
        rcases E.new k o v hz with q | q
        · rw [R.znot b k o q2] at q; cases q
        · exact absurd q (hfree b ((hc b).1 q1).2 k q2)
    · exact R'.znot b k o q2
  · rcases hF2 b k hk with ⟨q1, q2⟩ | ⟨q1, q2⟩
    · exact ⟨(R.mine b k q2).1, Nat.lt_of_lt_of_le (R.mine b k q2).2 R'.kept.size⟩
    · exact ⟨hS' k (R'.mine b k q2).1, (R'.mine b k q2).2⟩
  · simp only [F2]; split
    · exact R.nodup b
    · exact R'.nodup b
  · rcases hF2 b k hk with ⟨q1, q2⟩ | ⟨q1, q2⟩ <;> rcases hF2 b' k hk' with ⟨q3, q4⟩ | ⟨q3, q4⟩
    · exact R.disj b b' k q2 q4
    · exact absurd (R'.mine b' k q4).1 (hfree b ((hc b).1 q1).2 k q2)
    · exact absurd (R'.mine b k q2).1 (hfree b' ((hc b').1 q3).2 k q4)
    · exact R'.disj b b' k q2 q4
  · rw [unmask_len 0 h h' hl] at hb
    simp only [F2]
    rw [if_neg (by rw [hc]; omega)]
    exact R'.out b hb
  · rw [unmask_get 0 h h' b hl, Nat.zero_add] at hB
    simp only [F2]
    by_cases q : b < h.length ∧ hid n exc b = true
    · rw [if_pos q] at hB
      rw [if_pos ((hc b).2 q)]
      refine (R.blk b B hB).keep ⟨fun j p e => ?_, E.z⟩ (hkeep b q.2)
      rcases Nat.lt_or_ge j h.length with q | q
      · rw [E.m j q]; exact e
      · rw [R.dom j q] at e; cases e
    · rw [if_neg q] at hB
      rw [if_neg (by rw [hc]; exact q)]
      exact R'.blk b B hB
  · rcases E.new k o v e with q | q
    · exact .inl q
    · exact .inr (hS' k q)
  · obtain ⟨B, hB, hlv⟩ := hlv
    have := R.blk b B hB
    unfold BlkRel at this
    rw [if_pos hlv] at this
    obtain ⟨p, k1, _, _, k4⟩ := this
    rw [hm] at k1
    obtain ⟨rfl, -⟩ := Prod.mk.inj (Option.some.inj k1)
    obtain ⟨c', ty, fq, _, _, _, _, e⟩ := k4
    exact hkeep b hh k (by rw [e]; simp)
end
end Go.W
