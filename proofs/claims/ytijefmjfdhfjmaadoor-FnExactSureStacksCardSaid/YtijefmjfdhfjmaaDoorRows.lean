/-
  NARROWER THAN 'FOR EVERY INPUT', by the rows' own cells (each row's printed sentence says how): FnExactSureImage: laid · FnExactSureStacks: laid.
  DERIVED. THE GIVEN ROWS OF THIS SEAT. 2 by the template 'for every input the law returns true; each argument reads behind the call as it read before'; 0 by the template 'total and deterministic' (their statements: YtijefmjfdhfjmaaDoorTotals.lean).
  GIVEN WITH THE SEED: the statements are not yours to turn. If you find one false, say at which input.
  Laid BY PROGRAM, IN A SANDBOX (cutbox-rows.mjs): the forced cells as the released guide's own fill.sh prints them over the translation b78e88857443a872… (all of the seat's roots in one cut). By AI agents, Wed Nov 11 2026. No macro, syntax, notation, axiom, sorry.
-/
import Derived.Test.YtijefmjfdhfjmaaDoorChecked
import GoSem.Claim
import GoSem.ClaimJoined
import GoSem.ClaimMapViews
import Derived.JoinedTies
import Derived.KernelRfl
namespace Go.Proofs.YtijefmjfdhfjmaaDoor
/- THE CELL 'sum', in the pinned program and in every row, IS THE sha256 OF THE DUMP (.gsa) THAT YtijefmjfdhfjmaaDoorProg.lean LOADS. Nothing in Lean hashes anything: it is a label: what it is worth is what the hold of that sum in a sandbox is worth. -/
noncomputable def Tryd.pinned : Pinned := { name := "ytijefmjfdhfjmaadoor", sum := "b78e88857443a8724de6429f0336aa573d2cff74ef5e5056c7b79a7abc7e238c", checked := Tryd.checked }
namespace Rows
def none {H : Type} : Left H := { results := [], args := [] }

/- WHAT THE LISTED PACKAGE-LEVEL VARIABLES READ AS WHEN THE CALL BEGINS. Each datum BY PROGRAM (the guide's laid-datum.mjs) off the statement by which the dump's own 'gosem.cut.vars' lays the variable. In a bare row this is a premise. The card (YtijefmjfdhfjmaaDoorCards.lean) ties it to the program's text. -/
def laid_loop_example_smithy_impl_primWords {H : Type} : DataW H := .agg [.lit (.string [43]), .lit (.string [45]), .lit (.string [42]), .lit (.string [47]), .lit (.string [37]), .lit (.string [60]), .lit (.string [60, 61]), .lit (.string [61]), .lit (.string [110, 111, 116]), .lit (.string [97, 116]), .lit (.string [108, 101, 110]), .lit (.string [112, 117, 116]), .lit (.string [106, 111, 105, 110]), .lit (.string [112, 114, 105, 110, 116])]

/-- 'laws.FnExactSureImage': WHATEVER THE INPUT: true; the input reads as it did. -/
def fnExactSureImageSpec : ChangeSpec := { name := "fnExactSureImage", vars := ["loop.example/smithy/impl.primWords"], fn := fun _ => fun
  | [d, g1] => { results := [.lit (.bool true)], args := [d], vars := [g1] }
  | _ => none }
def fnExactSureImageRow : OpenClaim := { program := "ytijefmjfdhfjmaadoor", sum := "b78e88857443a8724de6429f0336aa573d2cff74ef5e5056c7b79a7abc7e238c", func := "loop.example/smithy/laws.FnExactSureImage", spec := "fnExactSureImage", unfollowed := true, recurses := true, named := ["loop.example/smithy/impl.primWords"], apart := false, laid := [("loop.example/smithy/impl.primWords", laid_loop_example_smithy_impl_primWords)] }
def FnExactSureImageSaid : Prop := fnExactSureImageRow.holds Tryd.pinned (OpenSpec.ofChange fnExactSureImageSpec)

/-- ITS FALSE NEIGHBOUR: 'it returns false'. Refute it at one input. -/
def fnExactSureImageWrong : ChangeSpec := { name := "fnExactSureImage", vars := ["loop.example/smithy/impl.primWords"], fn := fun _ => fun
  | [d, g1] => { results := [.lit (.bool false)], args := [d], vars := [g1] }
  | _ => none }
def FnExactSureImageWrongFalsely : Prop := fnExactSureImageRow.holds Tryd.pinned (OpenSpec.ofChange fnExactSureImageWrong)

/-- 'laws.FnExactSureStacks': WHATEVER THE INPUT: true; the input reads as it did. -/
def fnExactSureStacksSpec : ChangeSpec := { name := "fnExactSureStacks", vars := ["loop.example/smithy/impl.primWords"], fn := fun _ => fun
  | [d1, d2, g1] => { results := [.lit (.bool true)], args := [d1, d2], vars := [g1] }
  | _ => none }
def fnExactSureStacksRow : OpenClaim := { program := "ytijefmjfdhfjmaadoor", sum := "b78e88857443a8724de6429f0336aa573d2cff74ef5e5056c7b79a7abc7e238c", func := "loop.example/smithy/laws.FnExactSureStacks", spec := "fnExactSureStacks", unfollowed := true, recurses := true, named := ["loop.example/smithy/impl.primWords"], apart := false, laid := [("loop.example/smithy/impl.primWords", laid_loop_example_smithy_impl_primWords)] }
def FnExactSureStacksSaid : Prop := fnExactSureStacksRow.holds Tryd.pinned (OpenSpec.ofChange fnExactSureStacksSpec)

/-- ITS FALSE NEIGHBOUR: 'it returns false'. Refute it at one input. -/
def fnExactSureStacksWrong : ChangeSpec := { name := "fnExactSureStacks", vars := ["loop.example/smithy/impl.primWords"], fn := fun _ => fun
  | [d1, d2, g1] => { results := [.lit (.bool false)], args := [d1, d2], vars := [g1] }
  | _ => none }
def FnExactSureStacksWrongFalsely : Prop := fnExactSureStacksRow.holds Tryd.pinned (OpenSpec.ofChange fnExactSureStacksWrong)

/- THE SECOND FORM. 'bulk': how many values and letters a reading holds, each counted each time it is reached (what is shared counts as often as it is met; a slice's spare places count too). A statement '..UptoSaid' is the law's where the arguments, and the package variables that the reading takes, are together of bulk at most 1048576: NARROWER than '..Said'. Prove '..Said' where nothing that the law and all that it calls make is longer than what came in: it says more and counts as full. Else prove '..UptoSaid'. A law counts once. -/
mutual
def uptoBulk {H : Type} : DataW H → Nat
  | .lit (.string bytes) => bytes.length + 1
  | .lit _ => 1
  | .nil => 1
  | .ptr d => uptoBulk d + 1
  | .slice elems spare => uptoBulkAll elems + uptoBulkAll spare + 1
  | .agg parts => uptoBulkAll parts + 1
  | .iface _ d => uptoBulk d + 1
  | .map entries => uptoBulkEntries entries + 1
  | .held _ => 1
def uptoBulkAll {H : Type} : List (DataW H) → Nat
  | [] => 0
  | d :: r => uptoBulk d + uptoBulkAll r
def uptoBulkEntries {H : Type} : List (Lit × DataW H) → Nat
  | [] => 0
  | x :: r => uptoBulkEntry x + uptoBulkEntries r
def uptoBulkEntry {H : Type} : Lit × DataW H → Nat
  | (.string bytes, d) => bytes.length + uptoBulk d + 1
  | (_, d) => uptoBulk d + 1
 end
def uptoSmall : (H : Type) → List (DataW H) → Bool := fun _ ds => decide (uptoBulkAll ds ≤ 1048576)
def OpenSpec.upto (s : _root_.Go.ChangeSpec) : _root_.Go.OpenSpec := { _root_.Go.OpenSpec.ofChange s with cond := some uptoSmall }

/-- 'laws.FnExactSureImage', WHERE WHAT IT READS IS OF BULK AT MOST 1048576: true; the input reads as it did. -/
def fnExactSureImageUptoRow : OpenClaim := { program := "ytijefmjfdhfjmaadoor", sum := "b78e88857443a8724de6429f0336aa573d2cff74ef5e5056c7b79a7abc7e238c", func := "loop.example/smithy/laws.FnExactSureImage", spec := "fnExactSureImage", unfollowed := true, recurses := true, named := ["loop.example/smithy/impl.primWords"], apart := false, laid := [("loop.example/smithy/impl.primWords", laid_loop_example_smithy_impl_primWords)], narrowed := true }
def FnExactSureImageUptoSaid : Prop := fnExactSureImageUptoRow.holds Tryd.pinned (OpenSpec.upto fnExactSureImageSpec)

/-- 'laws.FnExactSureStacks', WHERE WHAT IT READS IS OF BULK AT MOST 1048576: true; the input reads as it did. -/
def fnExactSureStacksUptoRow : OpenClaim := { program := "ytijefmjfdhfjmaadoor", sum := "b78e88857443a8724de6429f0336aa573d2cff74ef5e5056c7b79a7abc7e238c", func := "loop.example/smithy/laws.FnExactSureStacks", spec := "fnExactSureStacks", unfollowed := true, recurses := true, named := ["loop.example/smithy/impl.primWords"], apart := false, laid := [("loop.example/smithy/impl.primWords", laid_loop_example_smithy_impl_primWords)], narrowed := true }
def FnExactSureStacksUptoSaid : Prop := fnExactSureStacksUptoRow.holds Tryd.pinned (OpenSpec.upto fnExactSureStacksSpec)

end Rows
end Go.Proofs.YtijefmjfdhfjmaaDoor
