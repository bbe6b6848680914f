/-
  No cell of these rows narrows 'for every input' (looked for: loops, veiled, ifaces, maps, wideKeys, modest, calm, conditions, laid).
  DERIVED. THE GIVEN ROWS OF THIS SEAT. 12 by the template 'for every input the law returns true; each argument reads behind the call as it read before'; 0 by the template 'total and deterministic' (their statements: YtpcgnmoogjahbaaTotals.lean).
  GIVEN WITH THE SEED: the statements are not yours to turn. If you find one false, say at which input.
  Laid BY PROGRAM, IN A SANDBOX (cutbox-rows.mjs): the forced cells as the released guide's own fill.sh prints them over the translation 842506797cfc16b7… (all of the seat's roots in one cut). By AI agents, Wed Nov 11 2026. No macro, syntax, notation, axiom, sorry.
-/
import Derived.Test.YtpcgnmoogjahbaaChecked
import GoSem.Claim
import GoSem.ClaimJoined
import GoSem.ClaimMapViews
import Derived.JoinedTies
import Derived.KernelRfl
namespace Go.Proofs.Ytpcgnmoogjahbaa
/- THE CELL 'sum', in the pinned program and in every row, IS THE sha256 OF THE DUMP (.gsa) THAT YtpcgnmoogjahbaaProg.lean LOADS. Nothing in Lean hashes anything: it is a label: what it is worth is what the hold of that sum in a sandbox is worth. -/
noncomputable def Try.pinned : Pinned := { name := "ytpcgnmoogjahbaa", sum := "842506797cfc16b7b25bfb5f3bd8d3afafea47de6e40540c32aeabec2face4de", checked := Try.checked }
namespace Rows
def none {H : Type} : Left H := { results := [], args := [] }

/-- 'laws.FnExactLogSum': WHATEVER THE INPUT: true; the input reads as it did. -/
def fnExactLogSumSpec : ChangeSpec := { name := "fnExactLogSum", fn := fun _ => fun
  | [d] => { results := [.lit (.bool true)], args := [d] }
  | _ => none }
def fnExactLogSumRow : OpenClaim := { program := "ytpcgnmoogjahbaa", sum := "842506797cfc16b7b25bfb5f3bd8d3afafea47de6e40540c32aeabec2face4de", func := "loop.example/smithy/laws.FnExactLogSum", spec := "fnExactLogSum", apart := false }
def FnExactLogSumSaid : Prop := fnExactLogSumRow.holds Try.pinned (OpenSpec.ofChange fnExactLogSumSpec)

/-- ITS FALSE NEIGHBOUR: 'it returns false'. Refute it at one input. -/
def fnExactLogSumWrong : ChangeSpec := { name := "fnExactLogSum", fn := fun _ => fun
  | [d] => { results := [.lit (.bool false)], args := [d] }
  | _ => none }
def FnExactLogSumWrongFalsely : Prop := fnExactLogSumRow.holds Try.pinned (OpenSpec.ofChange fnExactLogSumWrong)

/-- 'laws.FnLogSumOne': WHATEVER THE INPUT: true; the input reads as it did. -/
def fnLogSumOneSpec : ChangeSpec := { name := "fnLogSumOne", fn := fun _ => fun
  | [d1, d2] => { results := [.lit (.bool true)], args := [d1, d2] }
  | _ => none }
def fnLogSumOneRow : OpenClaim := { program := "ytpcgnmoogjahbaa", sum := "842506797cfc16b7b25bfb5f3bd8d3afafea47de6e40540c32aeabec2face4de", func := "loop.example/smithy/laws.FnLogSumOne", spec := "fnLogSumOne", apart := false }
def FnLogSumOneSaid : Prop := fnLogSumOneRow.holds Try.pinned (OpenSpec.ofChange fnLogSumOneSpec)

/-- ITS FALSE NEIGHBOUR: 'it returns false'. Refute it at one input. -/
def fnLogSumOneWrong : ChangeSpec := { name := "fnLogSumOne", fn := fun _ => fun
  | [d1, d2] => { results := [.lit (.bool false)], args := [d1, d2] }
  | _ => none }
def FnLogSumOneWrongFalsely : Prop := fnLogSumOneRow.holds Try.pinned (OpenSpec.ofChange fnLogSumOneWrong)

/-- 'laws.FnExactKeepHit': WHATEVER THE INPUT: true; the input reads as it did. -/
def fnExactKeepHitSpec : ChangeSpec := { name := "fnExactKeepHit", fn := fun _ => fun
  | [d1, d2, d3, d4] => { results := [.lit (.bool true)], args := [d1, d2, d3, d4] }
  | _ => none }
def fnExactKeepHitRow : OpenClaim := { program := "ytpcgnmoogjahbaa", sum := "842506797cfc16b7b25bfb5f3bd8d3afafea47de6e40540c32aeabec2face4de", func := "loop.example/smithy/laws.FnExactKeepHit", spec := "fnExactKeepHit", unfollowed := true, recurses := true, apart := false }
def FnExactKeepHitSaid : Prop := fnExactKeepHitRow.holds Try.pinned (OpenSpec.ofChange fnExactKeepHitSpec)

/-- ITS FALSE NEIGHBOUR: 'it returns false'. Refute it at one input. -/
def fnExactKeepHitWrong : ChangeSpec := { name := "fnExactKeepHit", fn := fun _ => fun
  | [d1, d2, d3, d4] => { results := [.lit (.bool false)], args := [d1, d2, d3, d4] }
  | _ => none }
def FnExactKeepHitWrongFalsely : Prop := fnExactKeepHitRow.holds Try.pinned (OpenSpec.ofChange fnExactKeepHitWrong)

/-- 'laws.FnExactDiskOk': WHATEVER THE INPUT: true; the input reads as it did. -/
def fnExactDiskOkSpec : ChangeSpec := { name := "fnExactDiskOk", fn := fun _ => fun
  | [d] => { results := [.lit (.bool true)], args := [d] }
  | _ => none }
def fnExactDiskOkRow : OpenClaim := { program := "ytpcgnmoogjahbaa", sum := "842506797cfc16b7b25bfb5f3bd8d3afafea47de6e40540c32aeabec2face4de", func := "loop.example/smithy/laws.FnExactDiskOk", spec := "fnExactDiskOk", inPlace := ["internal/bytealg.abigen_runtime_cmpstring", "slices.overlaps[loop.example/smithy/impl.DiskFile]"], unfollowed := true, recurses := true, apart := false }
def FnExactDiskOkSaid : Prop := fnExactDiskOkRow.holds Try.pinned (OpenSpec.ofChange fnExactDiskOkSpec)

/-- ITS FALSE NEIGHBOUR: 'it returns false'. Refute it at one input. -/
def fnExactDiskOkWrong : ChangeSpec := { name := "fnExactDiskOk", fn := fun _ => fun
  | [d] => { results := [.lit (.bool false)], args := [d] }
  | _ => none }
def FnExactDiskOkWrongFalsely : Prop := fnExactDiskOkRow.holds Try.pinned (OpenSpec.ofChange fnExactDiskOkWrong)

/-- 'laws.FnDiskPieces': WHATEVER THE INPUT: true; the input reads as it did. -/
def fnDiskPiecesSpec : ChangeSpec := { name := "fnDiskPieces", fn := fun _ => fun
  | [d1, d2] => { results := [.lit (.bool true)], args := [d1, d2] }
  | _ => none }
def fnDiskPiecesRow : OpenClaim := { program := "ytpcgnmoogjahbaa", sum := "842506797cfc16b7b25bfb5f3bd8d3afafea47de6e40540c32aeabec2face4de", func := "loop.example/smithy/laws.FnDiskPieces", spec := "fnDiskPieces", inPlace := ["internal/bytealg.abigen_runtime_cmpstring", "slices.overlaps[loop.example/smithy/impl.DiskFile]"], unfollowed := true, recurses := true, apart := false }
def FnDiskPiecesSaid : Prop := fnDiskPiecesRow.holds Try.pinned (OpenSpec.ofChange fnDiskPiecesSpec)

/-- ITS FALSE NEIGHBOUR: 'it returns false'. Refute it at one input. -/
def fnDiskPiecesWrong : ChangeSpec := { name := "fnDiskPieces", fn := fun _ => fun
  | [d1, d2] => { results := [.lit (.bool false)], args := [d1, d2] }
  | _ => none }
def FnDiskPiecesWrongFalsely : Prop := fnDiskPiecesRow.holds Try.pinned (OpenSpec.ofChange fnDiskPiecesWrong)

/-- 'laws.FnExactForgeOpen': WHATEVER THE INPUT: true; the input reads as it did. -/
def fnExactForgeOpenSpec : ChangeSpec := { name := "fnExactForgeOpen", fn := fun _ => fun
  | [d] => { results := [.lit (.bool true)], args := [d] }
  | _ => none }
def fnExactForgeOpenRow : OpenClaim := { program := "ytpcgnmoogjahbaa", sum := "842506797cfc16b7b25bfb5f3bd8d3afafea47de6e40540c32aeabec2face4de", func := "loop.example/smithy/laws.FnExactForgeOpen", spec := "fnExactForgeOpen", apart := false }
def FnExactForgeOpenSaid : Prop := fnExactForgeOpenRow.holds Try.pinned (OpenSpec.ofChange fnExactForgeOpenSpec)

/-- ITS FALSE NEIGHBOUR: 'it returns false'. Refute it at one input. -/
def fnExactForgeOpenWrong : ChangeSpec := { name := "fnExactForgeOpen", fn := fun _ => fun
  | [d] => { results := [.lit (.bool false)], args := [d] }
  | _ => none }
def FnExactForgeOpenWrongFalsely : Prop := fnExactForgeOpenRow.holds Try.pinned (OpenSpec.ofChange fnExactForgeOpenWrong)

/-- 'laws.FnDisk': WHATEVER THE INPUT: true; the input reads as it did. -/
def fnDiskSpec : ChangeSpec := { name := "fnDisk", fn := fun _ => fun
  | [d1, d2] => { results := [.lit (.bool true)], args := [d1, d2] }
  | _ => none }
def fnDiskRow : OpenClaim := { program := "ytpcgnmoogjahbaa", sum := "842506797cfc16b7b25bfb5f3bd8d3afafea47de6e40540c32aeabec2face4de", func := "loop.example/smithy/laws.FnDisk", spec := "fnDisk", inPlace := ["internal/bytealg.abigen_runtime_cmpstring", "slices.overlaps[loop.example/smithy/impl.DiskFile]"], unfollowed := true, recurses := true, apart := false }
def FnDiskSaid : Prop := fnDiskRow.holds Try.pinned (OpenSpec.ofChange fnDiskSpec)

/-- ITS FALSE NEIGHBOUR: 'it returns false'. Refute it at one input. -/
def fnDiskWrong : ChangeSpec := { name := "fnDisk", fn := fun _ => fun
  | [d1, d2] => { results := [.lit (.bool false)], args := [d1, d2] }
  | _ => none }
def FnDiskWrongFalsely : Prop := fnDiskRow.holds Try.pinned (OpenSpec.ofChange fnDiskWrong)

/-- 'laws.FnExactDiskGet': WHATEVER THE INPUT: true; the input reads as it did. -/
def fnExactDiskGetSpec : ChangeSpec := { name := "fnExactDiskGet", fn := fun _ => fun
  | [d1, d2] => { results := [.lit (.bool true)], args := [d1, d2] }
  | _ => none }
def fnExactDiskGetRow : OpenClaim := { program := "ytpcgnmoogjahbaa", sum := "842506797cfc16b7b25bfb5f3bd8d3afafea47de6e40540c32aeabec2face4de", func := "loop.example/smithy/laws.FnExactDiskGet", spec := "fnExactDiskGet", inPlace := ["internal/bytealg.abigen_runtime_cmpstring", "slices.overlaps[loop.example/smithy/impl.DiskFile]"], unfollowed := true, recurses := true, apart := false }
def FnExactDiskGetSaid : Prop := fnExactDiskGetRow.holds Try.pinned (OpenSpec.ofChange fnExactDiskGetSpec)

/-- ITS FALSE NEIGHBOUR: 'it returns false'. Refute it at one input. -/
def fnExactDiskGetWrong : ChangeSpec := { name := "fnExactDiskGet", fn := fun _ => fun
  | [d1, d2] => { results := [.lit (.bool false)], args := [d1, d2] }
  | _ => none }
def FnExactDiskGetWrongFalsely : Prop := fnExactDiskGetRow.holds Try.pinned (OpenSpec.ofChange fnExactDiskGetWrong)

/-- 'laws.FnExactDiskSee': WHATEVER THE INPUT: true; the input reads as it did. -/
def fnExactDiskSeeSpec : ChangeSpec := { name := "fnExactDiskSee", fn := fun _ => fun
  | [d] => { results := [.lit (.bool true)], args := [d] }
  | _ => none }
def fnExactDiskSeeRow : OpenClaim := { program := "ytpcgnmoogjahbaa", sum := "842506797cfc16b7b25bfb5f3bd8d3afafea47de6e40540c32aeabec2face4de", func := "loop.example/smithy/laws.FnExactDiskSee", spec := "fnExactDiskSee", inPlace := ["internal/bytealg.abigen_runtime_cmpstring", "slices.overlaps[loop.example/smithy/impl.DiskFile]"], unfollowed := true, recurses := true, apart := false }
def FnExactDiskSeeSaid : Prop := fnExactDiskSeeRow.holds Try.pinned (OpenSpec.ofChange fnExactDiskSeeSpec)

/-- ITS FALSE NEIGHBOUR: 'it returns false'. Refute it at one input. -/
def fnExactDiskSeeWrong : ChangeSpec := { name := "fnExactDiskSee", fn := fun _ => fun
  | [d] => { results := [.lit (.bool false)], args := [d] }
  | _ => none }
def FnExactDiskSeeWrongFalsely : Prop := fnExactDiskSeeRow.holds Try.pinned (OpenSpec.ofChange fnExactDiskSeeWrong)

/-- 'laws.FnExactDiskFall': WHATEVER THE INPUT: true; the input reads as it did. -/
def fnExactDiskFallSpec : ChangeSpec := { name := "fnExactDiskFall", fn := fun _ => fun
  | [d1, d2] => { results := [.lit (.bool true)], args := [d1, d2] }
  | _ => none }
def fnExactDiskFallRow : OpenClaim := { program := "ytpcgnmoogjahbaa", sum := "842506797cfc16b7b25bfb5f3bd8d3afafea47de6e40540c32aeabec2face4de", func := "loop.example/smithy/laws.FnExactDiskFall", spec := "fnExactDiskFall", inPlace := ["internal/bytealg.abigen_runtime_cmpstring", "slices.overlaps[loop.example/smithy/impl.DiskFile]"], unfollowed := true, recurses := true, apart := false }
def FnExactDiskFallSaid : Prop := fnExactDiskFallRow.holds Try.pinned (OpenSpec.ofChange fnExactDiskFallSpec)

/-- ITS FALSE NEIGHBOUR: 'it returns false'. Refute it at one input. -/
def fnExactDiskFallWrong : ChangeSpec := { name := "fnExactDiskFall", fn := fun _ => fun
  | [d1, d2] => { results := [.lit (.bool false)], args := [d1, d2] }
  | _ => none }
def FnExactDiskFallWrongFalsely : Prop := fnExactDiskFallRow.holds Try.pinned (OpenSpec.ofChange fnExactDiskFallWrong)

/-- 'laws.FnExactDiskSync': WHATEVER THE INPUT: true; the input reads as it did. -/
def fnExactDiskSyncSpec : ChangeSpec := { name := "fnExactDiskSync", fn := fun _ => fun
  | [d] => { results := [.lit (.bool true)], args := [d] }
  | _ => none }
def fnExactDiskSyncRow : OpenClaim := { program := "ytpcgnmoogjahbaa", sum := "842506797cfc16b7b25bfb5f3bd8d3afafea47de6e40540c32aeabec2face4de", func := "loop.example/smithy/laws.FnExactDiskSync", spec := "fnExactDiskSync", inPlace := ["internal/bytealg.abigen_runtime_cmpstring", "slices.overlaps[loop.example/smithy/impl.DiskFile]"], unfollowed := true, recurses := true, apart := false }
def FnExactDiskSyncSaid : Prop := fnExactDiskSyncRow.holds Try.pinned (OpenSpec.ofChange fnExactDiskSyncSpec)

/-- ITS FALSE NEIGHBOUR: 'it returns false'. Refute it at one input. -/
def fnExactDiskSyncWrong : ChangeSpec := { name := "fnExactDiskSync", fn := fun _ => fun
  | [d] => { results := [.lit (.bool false)], args := [d] }
  | _ => none }
def FnExactDiskSyncWrongFalsely : Prop := fnExactDiskSyncRow.holds Try.pinned (OpenSpec.ofChange fnExactDiskSyncWrong)

/-- 'laws.FnExactDiskDo': WHATEVER THE INPUT: true; the input reads as it did. -/
def fnExactDiskDoSpec : ChangeSpec := { name := "fnExactDiskDo", fn := fun _ => fun
  | [d1, d2] => { results := [.lit (.bool true)], args := [d1, d2] }
  | _ => none }
def fnExactDiskDoRow : OpenClaim := { program := "ytpcgnmoogjahbaa", sum := "842506797cfc16b7b25bfb5f3bd8d3afafea47de6e40540c32aeabec2face4de", func := "loop.example/smithy/laws.FnExactDiskDo", spec := "fnExactDiskDo", inPlace := ["internal/bytealg.abigen_runtime_cmpstring", "slices.overlaps[loop.example/smithy/impl.DiskFile]"], unfollowed := true, recurses := true, apart := false }
def FnExactDiskDoSaid : Prop := fnExactDiskDoRow.holds Try.pinned (OpenSpec.ofChange fnExactDiskDoSpec)

/-- ITS FALSE NEIGHBOUR: 'it returns false'. Refute it at one input. -/
def fnExactDiskDoWrong : ChangeSpec := { name := "fnExactDiskDo", fn := fun _ => fun
  | [d1, d2] => { results := [.lit (.bool false)], args := [d1, d2] }
  | _ => none }
def FnExactDiskDoWrongFalsely : Prop := fnExactDiskDoRow.holds Try.pinned (OpenSpec.ofChange fnExactDiskDoWrong)

/- THE SECOND FORM. 'bulk': how many values and letters a reading holds, each counted each time it is reached (what is shared counts as often as it is met; a slice's spare places count too). A statement '..UptoSaid' is the law's where the arguments, and the package variables that the reading takes, are together of bulk at most 1048576: NARROWER than '..Said'. Prove '..Said' where nothing that the law and all that it calls make is longer than what came in: it says more and counts as full. Else prove '..UptoSaid'. A law counts once. -/
mutual
def uptoBulk {H : Type} : DataW H → Nat
  | .lit (.string bytes) => bytes.length + 1
  | .lit _ => 1
  | .nil => 1
  | .ptr d => uptoBulk d + 1
  | .slice elems spare => uptoBulkAll elems + uptoBulkAll spare + 1
  | .agg parts => uptoBulkAll parts + 1
  | .iface _ d => uptoBulk d + 1
  | .map entries => uptoBulkEntries entries + 1
  | .held _ => 1
def uptoBulkAll {H : Type} : List (DataW H) → Nat
  | [] => 0
  | d :: r => uptoBulk d + uptoBulkAll r
def uptoBulkEntries {H : Type} : List (Lit × DataW H) → Nat
  | [] => 0
  | x :: r => uptoBulkEntry x + uptoBulkEntries r
def uptoBulkEntry {H : Type} : Lit × DataW H → Nat
  | (.string bytes, d) => bytes.length + uptoBulk d + 1
  | (_, d) => uptoBulk d + 1
 end
def uptoSmall : (H : Type) → List (DataW H) → Bool := fun _ ds => decide (uptoBulkAll ds ≤ 1048576)
def OpenSpec.upto (s : _root_.Go.ChangeSpec) : _root_.Go.OpenSpec := { _root_.Go.OpenSpec.ofChange s with cond := some uptoSmall }

/-- 'laws.FnExactLogSum', WHERE WHAT IT READS IS OF BULK AT MOST 1048576: true; the input reads as it did. -/
def fnExactLogSumUptoRow : OpenClaim := { program := "ytpcgnmoogjahbaa", sum := "842506797cfc16b7b25bfb5f3bd8d3afafea47de6e40540c32aeabec2face4de", func := "loop.example/smithy/laws.FnExactLogSum", spec := "fnExactLogSum", apart := false, narrowed := true }
def FnExactLogSumUptoSaid : Prop := fnExactLogSumUptoRow.holds Try.pinned (OpenSpec.upto fnExactLogSumSpec)

/-- 'laws.FnLogSumOne', WHERE WHAT IT READS IS OF BULK AT MOST 1048576: true; the input reads as it did. -/
def fnLogSumOneUptoRow : OpenClaim := { program := "ytpcgnmoogjahbaa", sum := "842506797cfc16b7b25bfb5f3bd8d3afafea47de6e40540c32aeabec2face4de", func := "loop.example/smithy/laws.FnLogSumOne", spec := "fnLogSumOne", apart := false, narrowed := true }
def FnLogSumOneUptoSaid : Prop := fnLogSumOneUptoRow.holds Try.pinned (OpenSpec.upto fnLogSumOneSpec)

/-- 'laws.FnExactKeepHit', WHERE WHAT IT READS IS OF BULK AT MOST 1048576: true; the input reads as it did. -/
def fnExactKeepHitUptoRow : OpenClaim := { program := "ytpcgnmoogjahbaa", sum := "842506797cfc16b7b25bfb5f3bd8d3afafea47de6e40540c32aeabec2face4de", func := "loop.example/smithy/laws.FnExactKeepHit", spec := "fnExactKeepHit", unfollowed := true, recurses := true, apart := false, narrowed := true }
def FnExactKeepHitUptoSaid : Prop := fnExactKeepHitUptoRow.holds Try.pinned (OpenSpec.upto fnExactKeepHitSpec)

/-- 'laws.FnExactDiskOk', WHERE WHAT IT READS IS OF BULK AT MOST 1048576: true; the input reads as it did. -/
def fnExactDiskOkUptoRow : OpenClaim := { program := "ytpcgnmoogjahbaa", sum := "842506797cfc16b7b25bfb5f3bd8d3afafea47de6e40540c32aeabec2face4de", func := "loop.example/smithy/laws.FnExactDiskOk", spec := "fnExactDiskOk", inPlace := ["internal/bytealg.abigen_runtime_cmpstring", "slices.overlaps[loop.example/smithy/impl.DiskFile]"], unfollowed := true, recurses := true, apart := false, narrowed := true }
def FnExactDiskOkUptoSaid : Prop := fnExactDiskOkUptoRow.holds Try.pinned (OpenSpec.upto fnExactDiskOkSpec)

/-- 'laws.FnDiskPieces', WHERE WHAT IT READS IS OF BULK AT MOST 1048576: true; the input reads as it did. -/
def fnDiskPiecesUptoRow : OpenClaim := { program := "ytpcgnmoogjahbaa", sum := "842506797cfc16b7b25bfb5f3bd8d3afafea47de6e40540c32aeabec2face4de", func := "loop.example/smithy/laws.FnDiskPieces", spec := "fnDiskPieces", inPlace := ["internal/bytealg.abigen_runtime_cmpstring", "slices.overlaps[loop.example/smithy/impl.DiskFile]"], unfollowed := true, recurses := true, apart := false, narrowed := true }
def FnDiskPiecesUptoSaid : Prop := fnDiskPiecesUptoRow.holds Try.pinned (OpenSpec.upto fnDiskPiecesSpec)

/-- 'laws.FnExactForgeOpen', WHERE WHAT IT READS IS OF BULK AT MOST 1048576: true; the input reads as it did. -/
def fnExactForgeOpenUptoRow : OpenClaim := { program := "ytpcgnmoogjahbaa", sum := "842506797cfc16b7b25bfb5f3bd8d3afafea47de6e40540c32aeabec2face4de", func := "loop.example/smithy/laws.FnExactForgeOpen", spec := "fnExactForgeOpen", apart := false, narrowed := true }
def FnExactForgeOpenUptoSaid : Prop := fnExactForgeOpenUptoRow.holds Try.pinned (OpenSpec.upto fnExactForgeOpenSpec)

/-- 'laws.FnDisk', WHERE WHAT IT READS IS OF BULK AT MOST 1048576: true; the input reads as it did. -/
def fnDiskUptoRow : OpenClaim := { program := "ytpcgnmoogjahbaa", sum := "842506797cfc16b7b25bfb5f3bd8d3afafea47de6e40540c32aeabec2face4de", func := "loop.example/smithy/laws.FnDisk", spec := "fnDisk", inPlace := ["internal/bytealg.abigen_runtime_cmpstring", "slices.overlaps[loop.example/smithy/impl.DiskFile]"], unfollowed := true, recurses := true, apart := false, narrowed := true }
def FnDiskUptoSaid : Prop := fnDiskUptoRow.holds Try.pinned (OpenSpec.upto fnDiskSpec)

/-- 'laws.FnExactDiskGet', WHERE WHAT IT READS IS OF BULK AT MOST 1048576: true; the input reads as it did. -/
def fnExactDiskGetUptoRow : OpenClaim := { program := "ytpcgnmoogjahbaa", sum := "842506797cfc16b7b25bfb5f3bd8d3afafea47de6e40540c32aeabec2face4de", func := "loop.example/smithy/laws.FnExactDiskGet", spec := "fnExactDiskGet", inPlace := ["internal/bytealg.abigen_runtime_cmpstring", "slices.overlaps[loop.example/smithy/impl.DiskFile]"], unfollowed := true, recurses := true, apart := false, narrowed := true }
def FnExactDiskGetUptoSaid : Prop := fnExactDiskGetUptoRow.holds Try.pinned (OpenSpec.upto fnExactDiskGetSpec)

/-- 'laws.FnExactDiskSee', WHERE WHAT IT READS IS OF BULK AT MOST 1048576: true; the input reads as it did. -/
def fnExactDiskSeeUptoRow : OpenClaim := { program := "ytpcgnmoogjahbaa", sum := "842506797cfc16b7b25bfb5f3bd8d3afafea47de6e40540c32aeabec2face4de", func := "loop.example/smithy/laws.FnExactDiskSee", spec := "fnExactDiskSee", inPlace := ["internal/bytealg.abigen_runtime_cmpstring", "slices.overlaps[loop.example/smithy/impl.DiskFile]"], unfollowed := true, recurses := true, apart := false, narrowed := true }
def FnExactDiskSeeUptoSaid : Prop := fnExactDiskSeeUptoRow.holds Try.pinned (OpenSpec.upto fnExactDiskSeeSpec)

/-- 'laws.FnExactDiskFall', WHERE WHAT IT READS IS OF BULK AT MOST 1048576: true; the input reads as it did. -/
def fnExactDiskFallUptoRow : OpenClaim := { program := "ytpcgnmoogjahbaa", sum := "842506797cfc16b7b25bfb5f3bd8d3afafea47de6e40540c32aeabec2face4de", func := "loop.example/smithy/laws.FnExactDiskFall", spec := "fnExactDiskFall", inPlace := ["internal/bytealg.abigen_runtime_cmpstring", "slices.overlaps[loop.example/smithy/impl.DiskFile]"], unfollowed := true, recurses := true, apart := false, narrowed := true }
def FnExactDiskFallUptoSaid : Prop := fnExactDiskFallUptoRow.holds Try.pinned (OpenSpec.upto fnExactDiskFallSpec)

/-- 'laws.FnExactDiskSync', WHERE WHAT IT READS IS OF BULK AT MOST 1048576: true; the input reads as it did. -/
def fnExactDiskSyncUptoRow : OpenClaim := { program := "ytpcgnmoogjahbaa", sum := "842506797cfc16b7b25bfb5f3bd8d3afafea47de6e40540c32aeabec2face4de", func := "loop.example/smithy/laws.FnExactDiskSync", spec := "fnExactDiskSync", inPlace := ["internal/bytealg.abigen_runtime_cmpstring", "slices.overlaps[loop.example/smithy/impl.DiskFile]"], unfollowed := true, recurses := true, apart := false, narrowed := true }
def FnExactDiskSyncUptoSaid : Prop := fnExactDiskSyncUptoRow.holds Try.pinned (OpenSpec.upto fnExactDiskSyncSpec)

/-- 'laws.FnExactDiskDo', WHERE WHAT IT READS IS OF BULK AT MOST 1048576: true; the input reads as it did. -/
def fnExactDiskDoUptoRow : OpenClaim := { program := "ytpcgnmoogjahbaa", sum := "842506797cfc16b7b25bfb5f3bd8d3afafea47de6e40540c32aeabec2face4de", func := "loop.example/smithy/laws.FnExactDiskDo", spec := "fnExactDiskDo", inPlace := ["internal/bytealg.abigen_runtime_cmpstring", "slices.overlaps[loop.example/smithy/impl.DiskFile]"], unfollowed := true, recurses := true, apart := false, narrowed := true }
def FnExactDiskDoUptoSaid : Prop := fnExactDiskDoUptoRow.holds Try.pinned (OpenSpec.upto fnExactDiskDoSpec)

end Rows
end Go.Proofs.Ytpcgnmoogjahbaa
