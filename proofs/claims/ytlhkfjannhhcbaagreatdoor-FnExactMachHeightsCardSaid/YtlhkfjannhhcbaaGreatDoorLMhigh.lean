/- FnExactMachHeights: at every argument the law's function returns true, and the argument and impl's list of primitives read as they did. Its condition: impl's list of primitives holds what the program's text lays, which the card ties. -/
import Derived.Test.YtlhkfjannhhcbaaGreatDoorG6
import Derived.Test.YtlhkfjannhhcbaaGreatDoorCards
import Derived.Test.YtlhkfjannhhcbaaGreatDoorTie
import Derived.SevenTiedAt
namespace Go.Proofs.YtlhkfjannhhcbaaGreatDoor.fnExactMachHeights
open Go.ChangeShapes Go.WideShapes Go.ChangeAt Go.RowKit Go.W
set_option linter.unusedVariables false
set_option maxRecDepth 100000 in
theorem lifted (os : Os) (started : os.Started) (H : Type) (enc : TypeId × Value → H) :
    ReturnsInHanded {} Tryz.checked os 3 .any (fun w args => (Rows.fnExactMachHeightsSpec.pre enc Tryz.prog Tryz.f3 Rows.fnExactMachHeightsRow.domain false w args ∧ laidMetH Tryz.prog laidL w) ∧ sizedMet enc Tryz.prog Tryz.f3 (OpenSpec.ofChange Rows.fnExactMachHeightsSpec) false w args)
      (Rows.fnExactMachHeightsSpec.post enc Tryz.prog Tryz.f3 false true false false) := by
  refine returnsInHanded_of_change_and (C := Tryz.checked) (X := fun w _ => laidMetH Tryz.prog laidL w) (fun _ _ _ hh h => h.of_heap hh) own0 started (by kernel_rfl) Tryz.func3
    (ChangeSpec.witness_shaped (enc := enc) (C := Tryz.checked) (os := os) (X := fun w _ => laidMetH Tryz.prog laidL w) false (World.doorLaid Tryz.prog 400 os) #[.agg #[.slice none 0 0, .slice none 0 0], .int .i64 0] 8 rfl (World.shaped_of_RefB (by kernel_rfl) (by kernel_rfl)) (by kernel_rfl) (by kernel_rfl) (by kernel_rfl) (door_met os _)) ?_
  intro W base args ds gs before hval0 hW _ _ hL _
  have hval : ∀ (j : Nat) t v, Tryz.f3.params[j]? = some t → args[j]? = some v → Value.okWide Tryz.prog W .any base t v := hval0
  have hW' := hW
  obtain ⟨p, q, hA0, hV0, rfl, hfz, hnd⟩ := hW
  have hA : DataW.TrodAll enc Tryz.prog W 0 (fun _ => true) true Tryz.f3.params.toList args.toList ds p := hA0
  have hV : DataW.TrodVars enc Tryz.prog W (fun _ => true) ["loop.example/smithy/impl.primWords"] gs q := hV0
  rw [Tryz.params3] at hA hval
  obtain ⟨v0, vs0, d0, ds0, p0, q0, hargs0, rfl, rfl, h0, r0⟩ := trodAll_cons hA
  obtain ⟨v1, vs1, d1, ds1, p1, q1, hargs1, rfl, rfl, h1, r1⟩ := trodAll_cons r0
  obtain ⟨rfl, rfl, rfl⟩ := trodAll_nil r1
  obtain rfl : args = #[v0, v1] := by cases args; simp_all
  have lt0 : ∀ x ∈ p0, x.block < W.heap.size := by obtain ⟨m, hm⟩ := h0; exact DataW.trod_lt m _ _ _ hm
  have lt1 : ∀ x ∈ p1, x.block < W.heap.size := by obtain ⟨m, hm⟩ := h1; exact DataW.trod_lt m _ _ _ hm
  obtain ⟨cs0, rfl⟩ := okWide_agg Tryz.underlying25 (hval 0 25 v0 rfl rfl)
  obtain ⟨_, hx, m, rfl⟩ := opn_agg opn_img h0
  obtain ⟨_, hx1, n, rfl, _⟩ := opn_one (G := fun x => ∃ n, x = .s (.int .i64 n) ∧ (Lit.int .i64 n).wf = true) ((opn_int Tryz.underlying3).mono fun xs ⟨n, e, hw⟩ => ⟨_, e, n, rfl, hw⟩) (okWide_cell (by kernel_rfl) (hval 1 3 v1 rfl rfl)) h1
  obtain ⟨g, t, cs, fuel, d, p', rfl, hg, ht, hvar, hd, rfl⟩ := trodVars_one hV
  refine (pure_trueG (vs := #[.agg cs0, v1]) (by kernel_rfl) (relG_of hL) (walk3 m n) ⟨hx, ⟨hx1, trivial⟩⟩).mono fun e W' ⟨he, bel⟩ => ?_
  subst he
  exact ⟨_, rfl, _, _, _, [], _, _, hW', trodAll_mk1 (shut_bool Tryz.underlying4 _), (trodAll_cons_mk (Below.trod laidOut0 (by kernel_rfl) (of_decide_eq_true (by kernel_rfl)) h0 bel lt0) (trodAll_cons_mk (Below.trod laidOut0 (by kernel_rfl) (of_decide_eq_true (by kernel_rfl)) h1 bel lt1) trodAll_mk0)), words_stay hV bel, bel.frame _, fun h => by cases h⟩
theorem over : Rows.fnExactMachHeightsRow.holds Tryz.pinned (OpenSpec.ofChange Rows.fnExactMachHeightsSpec) :=
  OpenClaim.holds_of_wide 3 Tryz.f3 rfl rfl rfl rfl rfl rfl rfl ⟨rfl, rfl, rfl, rfl, rfl⟩ rfl rfl rfl rfl rfl (by kernel_rfl) Tryz.func3 (by kernel_rfl)
    (of_decide_eq_true (by kernel_rfl)) (by unfold Func.isWrapper; first | (rw [if_pos (by decide +kernel)]; kernel_rfl) | (rw [if_neg (by decide +kernel)]; exact ⟨rfl, rfl⟩))
    (fun os started H enc _ => lifted os started H enc)
theorem card : Rows.FnExactMachHeightsCardSaid :=
  Claim7.holds_tied_plain_at .later [] [.widerDeep] true (true, "41ef78060376777662b043cc1119b991131b0ed7767fffd09c4ef04d88fbaa66") true
    over (fun _ h => by cases h) (by kernel_rfl) (fun _ h => by cases h) fnExactMachHeights_row_tie rfl ⟨rfl, rfl⟩ (by kernel_rfl) rfl
    (fun f fn hf hfn => by
      obtain rfl : f = 3 := Option.some.inj ((show Tryz.prog.funcNamed "loop.example/smithy/laws.FnExactMachHeights" = some 3 by kernel_rfl).symm.trans hf) |>.symm
      obtain rfl : fn = Tryz.f3 := (Option.some.inj (Tryz.func3.symm.trans hfn)).symm
      exact ⟨by kernel_rfl, fun j t ht => by
        rw [Tryz.params3] at ht
        have h3 : t = 25 ∨ t = 3 := by
          rcases j with _ | _ | j
          · exact .inl (by simpa using ht.symm)
          · exact .inr (by simpa using ht.symm)
          · simp at ht
        rcases h3 with rfl | rfl
        · exact (show Tryz.prog.wantsStandIn 25 = false by kernel_rfl)
        · exact (show Tryz.prog.wantsStandIn 3 = false by kernel_rfl)⟩)
    (by kernel_rfl)
#print axioms card
end Go.Proofs.YtlhkfjannhhcbaaGreatDoor.fnExactMachHeights
namespace Go.Proofs.YtlhkfjannhhcbaaGreatDoor
/-- The card, under a short name, for the claim. -/
theorem fnExactMachHeights_card : Rows.FnExactMachHeightsCardSaid := fnExactMachHeights.card
end Go.Proofs.YtlhkfjannhhcbaaGreatDoor
