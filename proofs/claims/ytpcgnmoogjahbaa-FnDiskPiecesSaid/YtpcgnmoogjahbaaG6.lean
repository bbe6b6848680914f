/- What functions of the program answer, walked on the abstract layer, and closed facts of the program; the conditions stand in each theorem. -/
import Derived.Test.YtpcgnmoogjahbaaG5
import Derived.Test.YtpcgnmoogjahbaaRows
import Derived.WalkKit
import Derived.ProofKit
import Derived.OpenShut
import Derived.ShutString
import Derived.ChangeOld
import Derived.Below
import Derived.SizedLaws
/- part BD -/
set_option linter.unusedVariables false
set_option maxRecDepth 100000
namespace Go.Proofs.Ytpcgnmoogjahbaa
open Go Go.W Go.RowKit
theorem own0 : ownKnob Try.prog.godebug = none := by kernel_rfl
theorem laidOut0 : laidOutB Try.prog = true := by kernel_rfl
section
variable {H' : Type} {enc : TypeId × Value → H'} {W : World}
theorem c9 : Try.prog.cellsOf 9 = 1 := by kernel_rfl
theorem c3 : Try.prog.cellsOf 3 = 1 := by kernel_rfl
theorem c43 : Try.prog.cellsOf 43 = 1 := by kernel_rfl
theorem c44 : Try.prog.cellsOf 44 = 1 := by kernel_rfl
theorem opn_fl : Go.W.Opn enc Try.prog W 126 fun xs => ∃ f : Fl, xs = fV f := by
  refine (opn_struct (gs := [fun xs => ∃ s, xs = [.s (.string s)], fun xs => ∃ s, xs = [.s (.string s)]]) Try.underlying126 (by kernel_rfl) ⟨rfl, opn_str Try.underlying9, by simp only [c9], opn_str Try.underlying9, rfl⟩).mono fun xs g => ?_
  obtain ⟨_, _, rfl, ⟨s, rfl⟩, _, _, rfl, ⟨s', rfl⟩, rfl⟩ := g
  exact ⟨(s, s'), rfl⟩
theorem opn_op : Go.W.Opn enc Try.prog W 86 fun xs => ∃ o : Opn, xs = oV o := by
  refine (opn_struct (gs := [fun xs => ∃ n, xs = [.s (.int .i64 n)] ∧ (Lit.int .i64 n).wf = true, fun xs => ∃ s, xs = [.s (.string s)], fun xs => ∃ s, xs = [.s (.string s)]]) Try.underlying86 (by kernel_rfl) ⟨rfl, opn_int Try.underlying3, by simp only [c3], opn_str Try.underlying9, by simp only [c3, c9], opn_str Try.underlying9, rfl⟩).mono fun xs g => ?_
  obtain ⟨_, _, rfl, ⟨k, rfl, _⟩, _, _, rfl, ⟨s, rfl⟩, _, _, rfl, ⟨s', rfl⟩, rfl⟩ := g
  exact ⟨(k, s, s'), rfl⟩
theorem opn_bytes : Go.W.Opn enc Try.prog W 24 fun xs => ∃ l : List UInt8, xs = [.f 1 (l.map bV)] := by
  have e1 : Go.W.Opn enc Try.prog W 24 fun xs => ∃ els, xs = [.f 1 els] ∧ ∀ el ∈ els, ∃ x : UInt8, el = bV x := opn_slice (n := 0) Try.underlying24 (by kernel_rfl) ((opn_int Try.underlying5).mono fun xs ⟨n, e, w⟩ => by
    subst e
    have hw : 0 ≤ n ∧ n < 256 := by
      simp only [Lit.wf, IntKind.min, IntKind.max, IntKind.bits, IntKind.signed] at w
      simp at w; omega
    refine ⟨UInt8.ofNat n.toNat, ?_⟩
    have : (UInt8.ofNat n.toNat).toNat = n.toNat := by rw [UInt8.toNat_ofNat']; omega
    simp only [bV, this]
    congr 3; omega)
  refine e1.mono fun xs ⟨els, e, h⟩ => ?_
  obtain ⟨l, rfl⟩ := map_of h
  exact ⟨l, e⟩
theorem opn_disk : Go.W.Opn enc Try.prog W 46 fun xs => ∃ fl ol cap, xs = dV fl ol cap := by
  have e1 : Go.W.Opn enc Try.prog W 43 fun xs => ∃ els, xs = [.f 2 els] ∧ ∀ el ∈ els, ∃ f : Fl, el = fV f := opn_slice (n := 1) Try.underlying43 (by kernel_rfl) opn_fl
  have e2 : Go.W.Opn enc Try.prog W 44 fun xs => ∃ els, xs = [.f 3 els] ∧ ∀ el ∈ els, ∃ o : Opn, el = oV o := opn_slice (n := 2) Try.underlying44 (by kernel_rfl) opn_op
  refine (opn_struct (gs := [_, _, _]) Try.underlying46 (by kernel_rfl) ⟨rfl, e1, by simp only [c43], e2, by simp only [c43, c44], opn_int Try.underlying3, rfl⟩).mono fun xs g => ?_
  obtain ⟨_, _, rfl, ⟨els, rfl, h1⟩, _, _, rfl, ⟨els', rfl, h2⟩, _, _, rfl, ⟨n, rfl, _⟩, rfl⟩ := g
  obtain ⟨fl, rfl⟩ := map_of h1
  obtain ⟨ol, rfl⟩ := map_of h2
  exact ⟨fl, ol, n, rfl⟩
end
end Go.Proofs.Ytpcgnmoogjahbaa
