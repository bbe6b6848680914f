/- A layer for walking through code on abstract values and an abstract heap: its definitions and their soundness; no condition. -/
import Derived.Test.YtpcgnmoogjahbaaVT
import Derived.IntWalk
set_option linter.unusedVariables false
set_option linter.unusedSimpArgs false
namespace Go.VL
open Go Go.RowKit

/-- What was there is as it was. -/
def HExt (h h' : H) : Prop := h.n ≤ h'.n ∧ ∀ b, b < h.n → h'.get b = h.get b
theorem HExt.refl (h : H) : HExt h h := ⟨Nat.le_refl _, fun _ _ => rfl⟩
theorem HExt.trans {h h' h'' : H} (a : HExt h h') (b : HExt h' h'') : HExt h h'' := ⟨Nat.le_trans a.1 b.1, fun j hj => (b.2 j (Nat.lt_of_lt_of_le hj a.1)).trans (a.2 j hj)⟩
theorem HExt.push (h : H) (k : Blk) : HExt h (h.push k) := ⟨Nat.le_succ _, fun b hb => H.get_push_old h k b hb⟩
theorem HExt.rdN {h h' : H} (e : HExt h h') {b off n : Nat} (hb : b < h.n) : h'.rdN b off n = h.rdN b off n := by unfold H.rdN; rw [e.2 b hb]
theorem HExt.rd {h h' : H} (e : HExt h h') {b off : Nat} (hb : b < h.n) : h'.rd b off = h.rd b off := by unfold H.rd; rw [e.2 b hb]
theorem HExt.stay {h h' : H} (e : HExt h h') : Stay h [] h' := fun b hb _ => e.2 b hb

/-- A slice whose cells are known: nil, or a place in a block. -/
def Row (h : H) (x : V) (n : Nat) (vs : List V) : Prop :=
  (x = .s (.slice none 0 0) ∧ n = 0 ∧ vs = []) ∨ ∃ b off cap, x = .sl b off n cap ∧ b < h.n ∧ h.rdN b off vs.length = some vs
theorem Row.ext {h h' : H} (e : HExt h h') {x : V} {n : Nat} {vs : List V} (r : Row h x n vs) : Row h' x n vs := by
  rcases r with r | ⟨b, off, cap, h1, h2, h3⟩
  · exact .inl r
  · exact .inr ⟨b, off, cap, h1, Nat.lt_of_lt_of_le h2 e.1, by rw [e.rdN h2]; exact h3⟩

theorem H.rdN_sub {h : H} {b off m i j : Nat} {vs : List V} (hr : h.rdN b off m = some vs) (hij : i + j ≤ m) : h.rdN b (off + i) j = some ((vs.drop i).take j) := by
  unfold H.rdN at *
  split at hr
  · cases hr
  · rename_i hd
    rw [if_neg hd]
    split at hr
    · rename_i hl
      obtain rfl := Option.some.inj hr
      rw [if_pos (by omega)]
      congr 1
      rw [List.drop_take, List.take_take, List.drop_drop]
      congr 1
      omega
    · cases hr
theorem H.rdN_one {h : H} {b off : Nat} {v : V} (hr : h.rdN b off 1 = some [v]) : h.rd b off = some v := by
  unfold H.rdN at hr
  unfold H.rd
  split at hr
  · cases hr
  · rename_i hd
    rw [if_neg hd]
    split at hr
    · rename_i hl
      have e := Option.some.inj hr
      have : ((h.get b).cells.drop off)[0]? = some v := by
        have := congrArg (fun l => l[0]?) e
        simpa [List.getElem?_take] using this
      rw [List.getElem?_drop] at this
      simpa using this
    · cases hr
theorem H.rdN_nth {h : H} {b off m i : Nat} {vs : List V} {v : V} (hr : h.rdN b off m = some vs) (hv : vs[i]? = some v) : h.rd b (off + i) = some v := by
  unfold H.rdN at hr
  unfold H.rd
  split at hr
  · cases hr
  · rename_i hd
    rw [if_neg hd]
    split at hr
    · obtain rfl := Option.some.inj hr
      rw [List.getElem?_take] at hv
      split at hv
      · rw [List.getElem?_drop] at hv; exact hv
      · cases hv
    · cases hr

/-- The i-th piece of a list of pieces of one length. -/
theorem flat_nth {α β : Type} {k : Nat} (enc : α → List β) (hk : ∀ a, (enc a).length = k) : ∀ (l : List α) (i : Nat) (a : α), l[i]? = some a → ((l.flatMap enc).drop (i * k)).take k = enc a
  | [], i, a, h => by simp at h
  | x :: l, 0, a, h => by
    simp at h; subst h
    simp only [List.flatMap_cons, Nat.zero_mul, List.drop_zero]
    rw [List.take_append_of_le_length (by rw [hk]; exact Nat.le_refl _)]
    exact List.take_of_length_le (by rw [hk]; exact Nat.le_refl _)
  | x :: l, i + 1, a, h => by
    simp only [List.flatMap_cons]
    rw [Nat.succ_mul, Nat.add_comm, ← List.drop_drop, List.drop_left' (hk x)]
    exact flat_nth enc hk l i a (by simpa using h)
theorem flat_len {α β : Type} {k : Nat} (enc : α → List β) (hk : ∀ a, (enc a).length = k) : ∀ (l : List α), (l.flatMap enc).length = l.length * k
  | [] => by simp
  | x :: l => by simp only [List.flatMap_cons, List.length_append, hk, flat_len enc hk l, List.length_cons, Nat.succ_mul, Nat.add_comm]

/-- The i-th struct of a row. -/
theorem Row.nth {α : Type} {h : H} {b off n cap k i : Nat} {l : List α} {a : α} (enc : α → List V) (hk : ∀ a, (enc a).length = k) (r : Row h (.sl b off n cap) l.length (l.flatMap enc)) (hi : l[i]? = some a) :
    n = l.length ∧ b < h.n ∧ h.rdN b (off + i * k) k = some (enc a) := by
  rcases r with ⟨h1, _⟩ | ⟨b', off', cap', h1, h2, h3⟩
  · cases h1
  · cases h1
    have hlt := (List.getElem?_eq_some_iff.1 hi).1
    rw [flat_len enc hk] at h3
    refine ⟨rfl, h2, ?_⟩
    rw [H.rdN_sub h3 (by have := Nat.mul_le_mul_right k (Nat.succ_le_of_lt hlt); rw [Nat.succ_mul] at this; exact this), flat_nth enc hk l i a hi]

theorem wrap_i64 (n : Int) (h : -9223372036854775808 ≤ n ∧ n ≤ 9223372036854775807) : IntKind.i64.wrap n = n := IntWalk.i64_in n h

end Go.VL
