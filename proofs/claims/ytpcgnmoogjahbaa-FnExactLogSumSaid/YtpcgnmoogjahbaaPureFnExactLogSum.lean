/- Both sums answer the same number at every text, and the law answers true; no condition beyond the statement's own bounds. -/
import Derived.Test.YtpcgnmoogjahbaaPFnExactLogSumx1
namespace Go.Proofs.Ytpcgnmoogjahbaa.Pure
open Go.RowKit Go.Proofs.Ytpcgnmoogjahbaa.PFnExactLogSum Go.Proofs.YtpcgnmoogjahbaaW.PrintWords Go.Proofs.YtpcgnmoogjahbaaW.PrintLast

def sumGo (s : ByteArray) : Nat → Int → Int → Int
  | 0, x, _ => x
  | d + 1, x, i => sumGo s d ((263 * x + bt s i) % 65521) (i + 1)

theorem sum_step (x b : Int) (h0 : 0 ≤ x) (h1 : x < 65521) (hb0 : 0 ≤ b) (hb1 : b ≤ 255) :
    Int.tmod (wrap64 (wrap64 (263 * x) + wrap64 b)) 65521 = (263 * x + b) % 65521 := by
  have e1 : wrap64 (263 * x) = 263 * x := by unfold wrap64; omega
  have e2 : wrap64 b = b := by unfold wrap64; omega
  have e3 : wrap64 (263 * x + b) = 263 * x + b := by unfold wrap64; omega
  rw [e1, e2, e3, Int.tmod_eq_emod_of_nonneg (by omega)]

theorem spec_tells (s : ByteArray) (hn : s.size ≤ 140737488351232) (d : Nat) : ∀ (k : Nat) (x i : Int), 0 ≤ i → (s.size : Int) - i = d → 0 ≤ x → x < 65521 → d < k →
    spec_LogSum.l0 k s x i = some (sumGo s d x i) := by
  induction d with
  | zero =>
    intro k x i h0 hd hx0 hx1 hk
    obtain ⟨k, rfl⟩ : ∃ m, k = m + 1 := ⟨k - 1, by omega⟩
    simp only [spec_LogSum.l0]; rw [if_neg (by omega)]; rfl
  | succ d ih =>
    intro k x i h0 hd hx0 hx1 hk
    obtain ⟨k, rfl⟩ : ∃ m, k = m + 1 := ⟨k - 1, by omega⟩
    have hb := bt_range s i
    simp only [spec_LogSum.l0]; rw [if_pos (by omega), if_pos h0, Int.mul_comm x 263, sum_step x _ hx0 hx1 hb.1 hb.2]
    have e : wrap64 (i + 1) = i + 1 := by unfold wrap64; omega
    rw [e, ih k _ _ (by omega) (by omega) (by omega) (by omega) (by omega)]; rfl

theorem impl_tells (s : ByteArray) (hn : s.size ≤ 140737488351232) (d : Nat) : ∀ (k : Nat) (x i : Int), 0 ≤ i → (s.size : Int) - i = d → 0 ≤ x → x < 65521 → d < k →
    impl_LogSum.l0 k s x (s.size : Int) i = some (sumGo s d x i) := by
  induction d with
  | zero =>
    intro k x i h0 hd hx0 hx1 hk
    obtain ⟨k, rfl⟩ : ∃ m, k = m + 1 := ⟨k - 1, by omega⟩
    simp only [impl_LogSum.l0]; rw [if_neg (by omega)]; rfl
  | succ d ih =>
    intro k x i h0 hd hx0 hx1 hk
    obtain ⟨k, rfl⟩ : ∃ m, k = m + 1 := ⟨k - 1, by omega⟩
    have hb := bt_range s i
    simp only [impl_LogSum.l0]; rw [if_pos (by omega), if_pos h0, if_pos (by omega), sum_step x _ hx0 hx1 hb.1 hb.2]
    have e : wrap64 (i + 1) = i + 1 := by unfold wrap64; omega
    rw [e, ih k _ _ (by omega) (by omega) (by omega) (by omega) (by omega)]; rfl

theorem FnExactLogSum : laws_FnExactLogSum.Pure := by
  intro s hn
  refine ⟨s.size + 1, ?_⟩
  unfold laws_FnExactLogSum.f spec_LogSum.f impl_LogSum.f
  by_cases h : (s.size : Int) > 1048576
  · rw [if_pos h]
  · rw [if_neg h, spec_tells s hn s.size _ 1 0 (by omega) (by omega) (by omega) (by omega) (by omega),
      impl_tells s hn s.size _ 1 0 (by omega) (by omega) (by omega) (by omega) (by omega)]
    simp

end Go.Proofs.Ytpcgnmoogjahbaa.Pure
