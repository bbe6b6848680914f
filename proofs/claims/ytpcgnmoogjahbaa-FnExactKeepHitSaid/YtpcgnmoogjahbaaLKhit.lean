/- FnExactKeepHit: at every argument within the bounds that the statement itself sets the law's function returns true. No further conditions. -/
import Derived.Test.YtpcgnmoogjahbaaG4
namespace Go.Proofs.Ytpcgnmoogjahbaa.fnExactKeepHit
open Go.ChangeShapes Go.WideShapes Go.ChangeAt Go.RowKit Go.W
set_option linter.unusedVariables false
set_option maxRecDepth 100000 in
theorem lifted (os : Os) (started : os.Started) (H : Type) (enc : TypeId × Value → H) :
    ReturnsInHanded {} Try.checked os 5 .any (Rows.fnExactKeepHitSpec.pre6 enc Try.prog Try.f5 Rows.fnExactKeepHitRow.domain false) (Rows.fnExactKeepHitSpec.post enc Try.prog Try.f5 false true false false) := by
  refine returnsInHanded_of_change_sized (C := Try.checked) own0 started (by kernel_rfl) Try.func5
    (ChangeSpec.witness6 (enc := enc) (C := Try.checked) false ⟨#[], #[.slice none 0 0, .string ⟨#[]⟩, .string ⟨#[]⟩, .slice none 0 0], []⟩ 5 (by kernel_rfl) (by kernel_rfl) (by kernel_rfl) (by kernel_rfl)) ?_
  intro W base args ds gs before hval0 hW hcnd hsz0 _
  have hval : ∀ (j : Nat) t v, Try.f5.params[j]? = some t → args[j]? = some v → Value.okWide Try.prog W .any base t v := hval0
  have hW' := hW
  obtain ⟨p, q, hA0, hV, rfl, hfz, hnd⟩ := hW
  have hA : DataW.TrodAll enc Try.prog W 0 (fun _ => true) true Try.f5.params.toList args.toList ds p := hA0
  rw [Try.params5] at hA hval
  obtain ⟨v0, vs0, d0, ds0, p0, q0, hargs0, rfl, rfl, h0, r0⟩ := trodAll_cons hA
  obtain ⟨v1, vs1, d1, ds1, p1, q1, hargs1, rfl, rfl, h1, r1⟩ := trodAll_cons r0
  obtain ⟨v2, vs2, d2, ds2, p2, q2, hargs2, rfl, rfl, h2, r2⟩ := trodAll_cons r1
  obtain ⟨v3, vs3, d3, ds3, p3, q3, hargs3, rfl, rfl, h3, r3⟩ := trodAll_cons r2
  obtain ⟨rfl, rfl, rfl⟩ := trodAll_nil r3
  obtain rfl : args = #[v0, v1, v2, v3] := by cases args; simp_all
  obtain ⟨rfl, rfl⟩ := trodVars_none hV
  have lt0 : ∀ x ∈ p0, x.block < W.heap.size := by obtain ⟨m, hm⟩ := h0; exact DataW.trod_lt m _ _ _ hm
  have lt1 : ∀ x ∈ p1, x.block < W.heap.size := by obtain ⟨m, hm⟩ := h1; exact DataW.trod_lt m _ _ _ hm
  have lt2 : ∀ x ∈ p2, x.block < W.heap.size := by obtain ⟨m, hm⟩ := h2; exact DataW.trod_lt m _ _ _ hm
  have lt3 : ∀ x ∈ p3, x.block < W.heap.size := by obtain ⟨m, hm⟩ := h3; exact DataW.trod_lt m _ _ _ hm
  obtain ⟨_, hx0, l0, rfl⟩ := opn_one (G := fun x => ∃ l : List Rec, x = .f 5 (l.map rV)) ((opn_recs).mono fun xs ⟨l, e⟩ => ⟨_, e, l, rfl⟩) (okWide_cell (by kernel_rfl) (hval 0 26 v0 rfl rfl)) h0
  obtain ⟨_, hx1, s1, rfl⟩ := opn_one (G := fun x => ∃ s, x = .s (.string s)) ((opn_str Try.underlying9).mono fun xs ⟨s, e⟩ => ⟨_, e, s, rfl⟩) (okWide_cell (by kernel_rfl) (hval 1 9 v1 rfl rfl)) h1
  obtain ⟨_, hx2, s2, rfl⟩ := opn_one (G := fun x => ∃ s, x = .s (.string s)) ((opn_str Try.underlying9).mono fun xs ⟨s, e⟩ => ⟨_, e, s, rfl⟩) (okWide_cell (by kernel_rfl) (hval 2 9 v2 rfl rfl)) h2
  obtain ⟨_, hx3, l3, rfl⟩ := opn_one (G := fun x => ∃ l : List ByteArray, x = .f 1 (l.map sV)) ((opn_strs).mono fun xs ⟨l, e⟩ => ⟨_, e, l, rfl⟩) (okWide_cell (by kernel_rfl) (hval 3 27 v3 rfl rfl)) h3
  refine (pure_true (C := C) (vs := #[v0, v1, v2, v3]) (by kernel_rfl) cg (walk5 l0 s1 s2 l3) ⟨hx0, ⟨hx1, ⟨hx2, ⟨hx3, trivial⟩⟩⟩⟩).mono fun e W' ⟨he, bel⟩ => ?_
  subst he
  exact ⟨_, rfl, _, _, _, [], _, [], hW', trodAll_mk1 (shut_bool Try.underlying4 _), (trodAll_cons_mk (Below.trod laidOut0 (by kernel_rfl) (of_decide_eq_true (by kernel_rfl)) h0 bel lt0) (trodAll_cons_mk (Below.trod laidOut0 (by kernel_rfl) (of_decide_eq_true (by kernel_rfl)) h1 bel lt1) (trodAll_cons_mk (Below.trod laidOut0 (by kernel_rfl) (of_decide_eq_true (by kernel_rfl)) h2 bel lt2) (trodAll_cons_mk (Below.trod laidOut0 (by kernel_rfl) (of_decide_eq_true (by kernel_rfl)) h3 bel lt3) trodAll_mk0)))), rfl, bel.frame _, fun h => by cases h⟩
theorem over : Rows.fnExactKeepHitRow.holds Try.pinned (OpenSpec.ofChange Rows.fnExactKeepHitSpec) :=
  OpenClaim.holds_of_wide 5 Try.f5 rfl rfl rfl rfl rfl rfl rfl ⟨rfl, rfl, rfl, rfl, rfl⟩ rfl rfl rfl rfl rfl (by kernel_rfl) Try.func5 (by kernel_rfl)
    (of_decide_eq_true (by kernel_rfl)) (by unfold Func.isWrapper; first | (rw [if_pos (by decide +kernel)]; kernel_rfl) | (rw [if_neg (by decide +kernel)]; exact ⟨rfl, rfl⟩))
    (fun os started H enc _ => lifted os started H enc)
theorem proved : Rows.FnExactKeepHitSaid := over
#print axioms proved
end Go.Proofs.Ytpcgnmoogjahbaa.fnExactKeepHit
namespace Go.Proofs.Ytpcgnmoogjahbaa
/-- The row, under a short name, for the claim. -/
theorem fnExactKeepHit_holds : Rows.FnExactKeepHitSaid := fnExactKeepHit.proved
end Go.Proofs.Ytpcgnmoogjahbaa
