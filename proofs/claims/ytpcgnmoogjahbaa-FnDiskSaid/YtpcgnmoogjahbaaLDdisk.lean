/- FnDisk: at every argument within the bounds that the statement itself sets the law's function returns true. No further conditions. -/
import Derived.Test.YtpcgnmoogjahbaaG6
namespace Go.Proofs.Ytpcgnmoogjahbaa.fnDisk
open Go.ChangeShapes Go.WideShapes Go.ChangeAt Go.RowKit Go.W
set_option linter.unusedVariables false
set_option maxRecDepth 100000 in
theorem lifted (os : Os) (started : os.Started) (H : Type) (enc : TypeId × Value → H) :
    ReturnsInHanded {} Try.checked os 9 .any (Rows.fnDiskSpec.pre6 enc Try.prog Try.f9 Rows.fnDiskRow.domain false) (Rows.fnDiskSpec.post enc Try.prog Try.f9 false true false false) := by
  refine returnsInHanded_of_change_sized (C := Try.checked) own0 started (by kernel_rfl) Try.func9
    (ChangeSpec.witness6 (enc := enc) (C := Try.checked) false ⟨#[], #[.slice none 0 0, .slice none 0 0], []⟩ 9 (by kernel_rfl) (by kernel_rfl) (by kernel_rfl) (by kernel_rfl)) ?_
  intro W base args ds gs before hval0 hW hcnd hsz0 _
  have hval : ∀ (j : Nat) t v, Try.f9.params[j]? = some t → args[j]? = some v → Value.okWide Try.prog W .any base t v := hval0
  have hW' := hW
  obtain ⟨p, q, hA0, hV, rfl, hfz, hnd⟩ := hW
  have hA : DataW.TrodAll enc Try.prog W 0 (fun _ => true) true Try.f9.params.toList args.toList ds p := hA0
  rw [Try.params9] at hA hval
  obtain ⟨v0, vs0, d0, ds0, p0, q0, hargs0, rfl, rfl, h0, r0⟩ := trodAll_cons hA
  obtain ⟨v1, vs1, d1, ds1, p1, q1, hargs1, rfl, rfl, h1, r1⟩ := trodAll_cons r0
  obtain ⟨rfl, rfl, rfl⟩ := trodAll_nil r1
  obtain rfl : args = #[v0, v1] := by cases args; simp_all
  obtain ⟨rfl, rfl⟩ := trodVars_none hV
  have lt0 : ∀ x ∈ p0, x.block < W.heap.size := by obtain ⟨m, hm⟩ := h0; exact DataW.trod_lt m _ _ _ hm
  have lt1 : ∀ x ∈ p1, x.block < W.heap.size := by obtain ⟨m, hm⟩ := h1; exact DataW.trod_lt m _ _ _ hm
  obtain ⟨_, hx0, b0, rfl⟩ := opn_one (G := fun x => ∃ l : List UInt8, x = .f 1 (l.map bV)) ((opn_bytes).mono fun xs ⟨l, e⟩ => ⟨_, e, l, rfl⟩) (okWide_cell (by kernel_rfl) (hval 0 24 v0 rfl rfl)) h0
  obtain ⟨_, hx1, b1, rfl⟩ := opn_one (G := fun x => ∃ l : List UInt8, x = .f 1 (l.map bV)) ((opn_bytes).mono fun xs ⟨l, e⟩ => ⟨_, e, l, rfl⟩) (okWide_cell (by kernel_rfl) (hval 1 24 v1 rfl rfl)) h1
  refine (pure_true (C := C) (vs := #[v0, v1]) (by kernel_rfl) cg (walk9 b0 b1) ⟨hx0, ⟨hx1, trivial⟩⟩).mono fun e W' ⟨he, bel⟩ => ?_
  subst he
  exact ⟨_, rfl, _, _, _, [], _, [], hW', trodAll_mk1 (shut_bool Try.underlying4 _), (trodAll_cons_mk (Below.trod laidOut0 (by kernel_rfl) (of_decide_eq_true (by kernel_rfl)) h0 bel lt0) (trodAll_cons_mk (Below.trod laidOut0 (by kernel_rfl) (of_decide_eq_true (by kernel_rfl)) h1 bel lt1) trodAll_mk0)), rfl, bel.frame _, fun h => by cases h⟩
theorem over : Rows.fnDiskRow.holds Try.pinned (OpenSpec.ofChange Rows.fnDiskSpec) :=
  OpenClaim.holds_of_wide 9 Try.f9 rfl rfl rfl rfl rfl rfl rfl ⟨rfl, rfl, rfl, rfl, rfl⟩ rfl rfl rfl rfl rfl (by kernel_rfl) Try.func9 (by kernel_rfl)
    (of_decide_eq_true (by kernel_rfl)) (by unfold Func.isWrapper; first | (rw [if_pos (by decide +kernel)]; kernel_rfl) | (rw [if_neg (by decide +kernel)]; exact ⟨rfl, rfl⟩))
    (fun os started H enc _ => lifted os started H enc)
theorem proved : Rows.FnDiskSaid := over
#print axioms proved
end Go.Proofs.Ytpcgnmoogjahbaa.fnDisk
namespace Go.Proofs.Ytpcgnmoogjahbaa
/-- The row, under a short name, for the claim. -/
theorem fnDisk_holds : Rows.FnDiskSaid := fnDisk.proved
end Go.Proofs.Ytpcgnmoogjahbaa
