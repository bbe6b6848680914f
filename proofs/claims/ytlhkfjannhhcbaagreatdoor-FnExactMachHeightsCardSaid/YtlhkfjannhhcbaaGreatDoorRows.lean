/-
  NARROWER THAN 'FOR EVERY INPUT', by the rows' own cells (each row's printed sentence says how): FnExactMachHeights: laid · FnExactMachRun: laid · FnMachFuel: laid.
  DERIVED. THE GIVEN ROWS OF THIS SEAT. 3 by the template 'for every input the law returns true; each argument reads behind the call as it read before'; 0 by the template 'total and deterministic' (their statements: YtlhkfjannhhcbaaGreatDoorTotals.lean).
  GIVEN WITH THE SEED: the statements are not yours to turn. If you find one false, say at which input.
  Laid BY PROGRAM, IN A SANDBOX (cutbox-rows.mjs): the forced cells as the released guide's own fill.sh prints them over the translation d0121fe8be0bcd11… (all of the seat's roots in one cut). By AI agents, Wed Nov 11 2026. No macro, syntax, notation, axiom, sorry.
-/
import Derived.Test.YtlhkfjannhhcbaaGreatDoorChecked
import GoSem.Claim
import GoSem.ClaimJoined
import GoSem.ClaimMapViews
import Derived.JoinedTies
import Derived.KernelRfl
namespace Go.Proofs.YtlhkfjannhhcbaaGreatDoor
/- THE CELL 'sum', in the pinned program and in every row, IS THE sha256 OF THE DUMP (.gsa) THAT YtlhkfjannhhcbaaGreatDoorProg.lean LOADS. Nothing in Lean hashes anything: it is a label: what it is worth is what the hold of that sum in a sandbox is worth. -/
noncomputable def Tryz.pinned : Pinned := { name := "ytlhkfjannhhcbaagreatdoor", sum := "d0121fe8be0bcd11568823ea9716aa26199444a99f9d6acd3ba9a2dc4584b1c5", checked := Tryz.checked }
namespace Rows
def none {H : Type} : Left H := { results := [], args := [] }

/- WHAT THE LISTED PACKAGE-LEVEL VARIABLES READ AS WHEN THE CALL BEGINS. Each datum BY PROGRAM (the guide's laid-datum.mjs) off the statement by which the dump's own 'gosem.cut.vars' lays the variable. In a bare row this is a premise. The card (YtlhkfjannhhcbaaGreatDoorCards.lean) ties it to the program's text. -/
def laid_loop_example_smithy_impl_primWords {H : Type} : DataW H := .agg [.lit (.string [43]), .lit (.string [45]), .lit (.string [42]), .lit (.string [47]), .lit (.string [37]), .lit (.string [60]), .lit (.string [60, 61]), .lit (.string [61]), .lit (.string [110, 111, 116]), .lit (.string [97, 116]), .lit (.string [108, 101, 110]), .lit (.string [112, 117, 116]), .lit (.string [106, 111, 105, 110]), .lit (.string [112, 114, 105, 110, 116])]

/-- 'laws.FnExactMachHeights': WHATEVER THE INPUT: true; the input reads as it did. -/
def fnExactMachHeightsSpec : ChangeSpec := { name := "fnExactMachHeights", vars := ["loop.example/smithy/impl.primWords"], fn := fun _ => fun
  | [d1, d2, g1] => { results := [.lit (.bool true)], args := [d1, d2], vars := [g1] }
  | _ => none }
def fnExactMachHeightsRow : OpenClaim := { program := "ytlhkfjannhhcbaagreatdoor", sum := "d0121fe8be0bcd11568823ea9716aa26199444a99f9d6acd3ba9a2dc4584b1c5", func := "loop.example/smithy/laws.FnExactMachHeights", spec := "fnExactMachHeights", unfollowed := true, recurses := true, named := ["loop.example/smithy/impl.primWords"], apart := false, laid := [("loop.example/smithy/impl.primWords", laid_loop_example_smithy_impl_primWords)] }
def FnExactMachHeightsSaid : Prop := fnExactMachHeightsRow.holds Tryz.pinned (OpenSpec.ofChange fnExactMachHeightsSpec)

/-- ITS FALSE NEIGHBOUR: 'it returns false'. Refute it at one input. -/
def fnExactMachHeightsWrong : ChangeSpec := { name := "fnExactMachHeights", vars := ["loop.example/smithy/impl.primWords"], fn := fun _ => fun
  | [d1, d2, g1] => { results := [.lit (.bool false)], args := [d1, d2], vars := [g1] }
  | _ => none }
def FnExactMachHeightsWrongFalsely : Prop := fnExactMachHeightsRow.holds Tryz.pinned (OpenSpec.ofChange fnExactMachHeightsWrong)

/-- 'laws.FnExactMachRun': WHATEVER THE INPUT: true; the input reads as it did. -/
def fnExactMachRunSpec : ChangeSpec := { name := "fnExactMachRun", vars := ["loop.example/smithy/impl.primWords"], fn := fun _ => fun
  | [d1, d2, g1] => { results := [.lit (.bool true)], args := [d1, d2], vars := [g1] }
  | _ => none }
def fnExactMachRunRow : OpenClaim := { program := "ytlhkfjannhhcbaagreatdoor", sum := "d0121fe8be0bcd11568823ea9716aa26199444a99f9d6acd3ba9a2dc4584b1c5", func := "loop.example/smithy/laws.FnExactMachRun", spec := "fnExactMachRun", unfollowed := true, recurses := true, named := ["loop.example/smithy/impl.primWords"], apart := false, laid := [("loop.example/smithy/impl.primWords", laid_loop_example_smithy_impl_primWords)] }
def FnExactMachRunSaid : Prop := fnExactMachRunRow.holds Tryz.pinned (OpenSpec.ofChange fnExactMachRunSpec)

/-- ITS FALSE NEIGHBOUR: 'it returns false'. Refute it at one input. -/
def fnExactMachRunWrong : ChangeSpec := { name := "fnExactMachRun", vars := ["loop.example/smithy/impl.primWords"], fn := fun _ => fun
  | [d1, d2, g1] => { results := [.lit (.bool false)], args := [d1, d2], vars := [g1] }
  | _ => none }
def FnExactMachRunWrongFalsely : Prop := fnExactMachRunRow.holds Tryz.pinned (OpenSpec.ofChange fnExactMachRunWrong)

/-- 'laws.FnMachFuel': WHATEVER THE INPUT: true; the input reads as it did. -/
def fnMachFuelSpec : ChangeSpec := { name := "fnMachFuel", vars := ["loop.example/smithy/impl.primWords"], fn := fun _ => fun
  | [d1, d2, g1] => { results := [.lit (.bool true)], args := [d1, d2], vars := [g1] }
  | _ => none }
def fnMachFuelRow : OpenClaim := { program := "ytlhkfjannhhcbaagreatdoor", sum := "d0121fe8be0bcd11568823ea9716aa26199444a99f9d6acd3ba9a2dc4584b1c5", func := "loop.example/smithy/laws.FnMachFuel", spec := "fnMachFuel", unfollowed := true, recurses := true, named := ["loop.example/smithy/impl.primWords"], apart := false, laid := [("loop.example/smithy/impl.primWords", laid_loop_example_smithy_impl_primWords)] }
def FnMachFuelSaid : Prop := fnMachFuelRow.holds Tryz.pinned (OpenSpec.ofChange fnMachFuelSpec)

/-- ITS FALSE NEIGHBOUR: 'it returns false'. Refute it at one input. -/
def fnMachFuelWrong : ChangeSpec := { name := "fnMachFuel", vars := ["loop.example/smithy/impl.primWords"], fn := fun _ => fun
  | [d1, d2, g1] => { results := [.lit (.bool false)], args := [d1, d2], vars := [g1] }
  | _ => none }
def FnMachFuelWrongFalsely : Prop := fnMachFuelRow.holds Tryz.pinned (OpenSpec.ofChange fnMachFuelWrong)

/- THE SECOND FORM. 'bulk': how many values and letters a reading holds, each counted each time it is reached (what is shared counts as often as it is met; a slice's spare places count too). A statement '..UptoSaid' is the law's where the arguments, and the package variables that the reading takes, are together of bulk at most 1048576: NARROWER than '..Said'. Prove '..Said' where nothing that the law and all that it calls make is longer than what came in: it says more and counts as full. Else prove '..UptoSaid'. A law counts once. -/
mutual
def uptoBulk {H : Type} : DataW H → Nat
  | .lit (.string bytes) => bytes.length + 1
  | .lit _ => 1
  | .nil => 1
  | .ptr d => uptoBulk d + 1
  | .slice elems spare => uptoBulkAll elems + uptoBulkAll spare + 1
  | .agg parts => uptoBulkAll parts + 1
  | .iface _ d => uptoBulk d + 1
  | .map entries => uptoBulkEntries entries + 1
  | .held _ => 1
def uptoBulkAll {H : Type} : List (DataW H) → Nat
  | [] => 0
  | d :: r => uptoBulk d + uptoBulkAll r
def uptoBulkEntries {H : Type} : List (Lit × DataW H) → Nat
  | [] => 0
  | x :: r => uptoBulkEntry x + uptoBulkEntries r
def uptoBulkEntry {H : Type} : Lit × DataW H → Nat
  | (.string bytes, d) => bytes.length + uptoBulk d + 1
  | (_, d) => uptoBulk d + 1
 end
def uptoSmall : (H : Type) → List (DataW H) → Bool := fun _ ds => decide (uptoBulkAll ds ≤ 1048576)
def OpenSpec.upto (s : _root_.Go.ChangeSpec) : _root_.Go.OpenSpec := { _root_.Go.OpenSpec.ofChange s with cond := some uptoSmall }

/-- 'laws.FnExactMachHeights', WHERE WHAT IT READS IS OF BULK AT MOST 1048576: true; the input reads as it did. -/
def fnExactMachHeightsUptoRow : OpenClaim := { program := "ytlhkfjannhhcbaagreatdoor", sum := "d0121fe8be0bcd11568823ea9716aa26199444a99f9d6acd3ba9a2dc4584b1c5", func := "loop.example/smithy/laws.FnExactMachHeights", spec := "fnExactMachHeights", unfollowed := true, recurses := true, named := ["loop.example/smithy/impl.primWords"], apart := false, laid := [("loop.example/smithy/impl.primWords", laid_loop_example_smithy_impl_primWords)], narrowed := true }
def FnExactMachHeightsUptoSaid : Prop := fnExactMachHeightsUptoRow.holds Tryz.pinned (OpenSpec.upto fnExactMachHeightsSpec)

/-- 'laws.FnExactMachRun', WHERE WHAT IT READS IS OF BULK AT MOST 1048576: true; the input reads as it did. -/
def fnExactMachRunUptoRow : OpenClaim := { program := "ytlhkfjannhhcbaagreatdoor", sum := "d0121fe8be0bcd11568823ea9716aa26199444a99f9d6acd3ba9a2dc4584b1c5", func := "loop.example/smithy/laws.FnExactMachRun", spec := "fnExactMachRun", unfollowed := true, recurses := true, named := ["loop.example/smithy/impl.primWords"], apart := false, laid := [("loop.example/smithy/impl.primWords", laid_loop_example_smithy_impl_primWords)], narrowed := true }
def FnExactMachRunUptoSaid : Prop := fnExactMachRunUptoRow.holds Tryz.pinned (OpenSpec.upto fnExactMachRunSpec)

/-- 'laws.FnMachFuel', WHERE WHAT IT READS IS OF BULK AT MOST 1048576: true; the input reads as it did. -/
def fnMachFuelUptoRow : OpenClaim := { program := "ytlhkfjannhhcbaagreatdoor", sum := "d0121fe8be0bcd11568823ea9716aa26199444a99f9d6acd3ba9a2dc4584b1c5", func := "loop.example/smithy/laws.FnMachFuel", spec := "fnMachFuel", unfollowed := true, recurses := true, named := ["loop.example/smithy/impl.primWords"], apart := false, laid := [("loop.example/smithy/impl.primWords", laid_loop_example_smithy_impl_primWords)], narrowed := true }
def FnMachFuelUptoSaid : Prop := fnMachFuelUptoRow.holds Tryz.pinned (OpenSpec.upto fnMachFuelSpec)

end Rows
end Go.Proofs.YtlhkfjannhhcbaaGreatDoor
