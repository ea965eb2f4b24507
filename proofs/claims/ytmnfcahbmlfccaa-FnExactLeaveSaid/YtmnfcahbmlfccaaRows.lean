/-
  No cell of these rows narrows 'for every input' (looked for: loops, veiled, ifaces, maps, wideKeys, modest, calm, conditions, laid).
  DERIVED. THE GIVEN ROWS OF THIS SEAT. 12 by the template 'for every input the law returns true; each argument reads behind the call as it read before'; 0 by the template 'total and deterministic' (their statements: YtmnfcahbmlfccaaTotals.lean).
  GIVEN WITH THE SEED: the statements are not yours to turn. If you find one false, say at which input.
  Laid BY PROGRAM, IN A SANDBOX (cutbox-rows.mjs): the forced cells as the released guide's own fill.sh prints them over the translation fa49c895f56a8c16… (all of the seat's roots in one cut). By AI agents, Wed Nov 11 2026. No macro, syntax, notation, axiom, sorry.
-/
import Derived.Test.YtmnfcahbmlfccaaChecked
import GoSem.Claim
import GoSem.ClaimJoined
import GoSem.ClaimMapViews
import Derived.JoinedTies
import Derived.KernelRfl
namespace Go.Proofs.Ytmnfcahbmlfccaa
/- THE CELL 'sum', in the pinned program and in every row, IS THE sha256 OF THE DUMP (.gsa) THAT YtmnfcahbmlfccaaProg.lean LOADS. Nothing in Lean hashes anything: it is a label: what it is worth is what the hold of that sum in a sandbox is worth. -/
noncomputable def Try.pinned : Pinned := { name := "ytmnfcahbmlfccaa", sum := "fa49c895f56a8c1687bc812cdccd72bb0a2b9a9d84d0a6834f7779cc412cc804", checked := Try.checked }
namespace Rows
def none {H : Type} : Left H := { results := [], args := [] }

/-- 'laws.FnExactTreeOk': WHATEVER THE INPUT: true; the input reads as it did. -/
def fnExactTreeOkSpec : ChangeSpec := { name := "fnExactTreeOk", fn := fun _ => fun
  | [d] => { results := [.lit (.bool true)], args := [d] }
  | _ => none }
def fnExactTreeOkRow : OpenClaim := { program := "ytmnfcahbmlfccaa", sum := "fa49c895f56a8c1687bc812cdccd72bb0a2b9a9d84d0a6834f7779cc412cc804", func := "loop.example/g00499/laws.FnExactTreeOk", spec := "fnExactTreeOk", apart := false }
def FnExactTreeOkSaid : Prop := fnExactTreeOkRow.holds Try.pinned (OpenSpec.ofChange fnExactTreeOkSpec)

/-- ITS FALSE NEIGHBOUR: 'it returns false'. Refute it at one input. -/
def fnExactTreeOkWrong : ChangeSpec := { name := "fnExactTreeOk", fn := fun _ => fun
  | [d] => { results := [.lit (.bool false)], args := [d] }
  | _ => none }
def FnExactTreeOkWrongFalsely : Prop := fnExactTreeOkRow.holds Try.pinned (OpenSpec.ofChange fnExactTreeOkWrong)

/-- 'laws.FnExactUnlink': WHATEVER THE INPUT: true; the input reads as it did. -/
def fnExactUnlinkSpec : ChangeSpec := { name := "fnExactUnlink", fn := fun _ => fun
  | [d1, d2] => { results := [.lit (.bool true)], args := [d1, d2] }
  | _ => none }
def fnExactUnlinkRow : OpenClaim := { program := "ytmnfcahbmlfccaa", sum := "fa49c895f56a8c1687bc812cdccd72bb0a2b9a9d84d0a6834f7779cc412cc804", func := "loop.example/g00499/laws.FnExactUnlink", spec := "fnExactUnlink", apart := false }
def FnExactUnlinkSaid : Prop := fnExactUnlinkRow.holds Try.pinned (OpenSpec.ofChange fnExactUnlinkSpec)

/-- ITS FALSE NEIGHBOUR: 'it returns false'. Refute it at one input. -/
def fnExactUnlinkWrong : ChangeSpec := { name := "fnExactUnlink", fn := fun _ => fun
  | [d1, d2] => { results := [.lit (.bool false)], args := [d1, d2] }
  | _ => none }
def FnExactUnlinkWrongFalsely : Prop := fnExactUnlinkRow.holds Try.pinned (OpenSpec.ofChange fnExactUnlinkWrong)

/-- 'laws.FnExactNewCur': WHATEVER THE INPUT: true; the input reads as it did. -/
def fnExactNewCurSpec : ChangeSpec := { name := "fnExactNewCur", fn := fun _ => fun
  | [d1, d2, d3] => { results := [.lit (.bool true)], args := [d1, d2, d3] }
  | _ => none }
def fnExactNewCurRow : OpenClaim := { program := "ytmnfcahbmlfccaa", sum := "fa49c895f56a8c1687bc812cdccd72bb0a2b9a9d84d0a6834f7779cc412cc804", func := "loop.example/g00499/laws.FnExactNewCur", spec := "fnExactNewCur", unfollowed := true, recurses := true, apart := false }
def FnExactNewCurSaid : Prop := fnExactNewCurRow.holds Try.pinned (OpenSpec.ofChange fnExactNewCurSpec)

/-- ITS FALSE NEIGHBOUR: 'it returns false'. Refute it at one input. -/
def fnExactNewCurWrong : ChangeSpec := { name := "fnExactNewCur", fn := fun _ => fun
  | [d1, d2, d3] => { results := [.lit (.bool false)], args := [d1, d2, d3] }
  | _ => none }
def FnExactNewCurWrongFalsely : Prop := fnExactNewCurRow.holds Try.pinned (OpenSpec.ofChange fnExactNewCurWrong)

/-- 'laws.FnExactPutLarge': WHATEVER THE INPUT: true; the input reads as it did. -/
def fnExactPutLargeSpec : ChangeSpec := { name := "fnExactPutLarge", fn := fun _ => fun
  | [d1, d2, d3, d4] => { results := [.lit (.bool true)], args := [d1, d2, d3, d4] }
  | _ => none }
def fnExactPutLargeRow : OpenClaim := { program := "ytmnfcahbmlfccaa", sum := "fa49c895f56a8c1687bc812cdccd72bb0a2b9a9d84d0a6834f7779cc412cc804", func := "loop.example/g00499/laws.FnExactPutLarge", spec := "fnExactPutLarge", unfollowed := true, recurses := true, apart := false }
def FnExactPutLargeSaid : Prop := fnExactPutLargeRow.holds Try.pinned (OpenSpec.ofChange fnExactPutLargeSpec)

/-- ITS FALSE NEIGHBOUR: 'it returns false'. Refute it at one input. -/
def fnExactPutLargeWrong : ChangeSpec := { name := "fnExactPutLarge", fn := fun _ => fun
  | [d1, d2, d3, d4] => { results := [.lit (.bool false)], args := [d1, d2, d3, d4] }
  | _ => none }
def FnExactPutLargeWrongFalsely : Prop := fnExactPutLargeRow.holds Try.pinned (OpenSpec.ofChange fnExactPutLargeWrong)

/-- 'laws.FnExactWorthOf': WHATEVER THE INPUT: true; the input reads as it did. -/
def fnExactWorthOfSpec : ChangeSpec := { name := "fnExactWorthOf", fn := fun _ => fun
  | [d1, d2] => { results := [.lit (.bool true)], args := [d1, d2] }
  | _ => none }
def fnExactWorthOfRow : OpenClaim := { program := "ytmnfcahbmlfccaa", sum := "fa49c895f56a8c1687bc812cdccd72bb0a2b9a9d84d0a6834f7779cc412cc804", func := "loop.example/g00499/laws.FnExactWorthOf", spec := "fnExactWorthOf", recurses := true, apart := false }
def FnExactWorthOfSaid : Prop := fnExactWorthOfRow.holds Try.pinned (OpenSpec.ofChange fnExactWorthOfSpec)

/-- ITS FALSE NEIGHBOUR: 'it returns false'. Refute it at one input. -/
def fnExactWorthOfWrong : ChangeSpec := { name := "fnExactWorthOf", fn := fun _ => fun
  | [d1, d2] => { results := [.lit (.bool false)], args := [d1, d2] }
  | _ => none }
def FnExactWorthOfWrongFalsely : Prop := fnExactWorthOfRow.holds Try.pinned (OpenSpec.ofChange fnExactWorthOfWrong)

/-- 'laws.FnExactRoomsIn': WHATEVER THE INPUT: true; the input reads as it did. -/
def fnExactRoomsInSpec : ChangeSpec := { name := "fnExactRoomsIn", fn := fun _ => fun
  | [d] => { results := [.lit (.bool true)], args := [d] }
  | _ => none }
def fnExactRoomsInRow : OpenClaim := { program := "ytmnfcahbmlfccaa", sum := "fa49c895f56a8c1687bc812cdccd72bb0a2b9a9d84d0a6834f7779cc412cc804", func := "loop.example/g00499/laws.FnExactRoomsIn", spec := "fnExactRoomsIn", apart := false }
def FnExactRoomsInSaid : Prop := fnExactRoomsInRow.holds Try.pinned (OpenSpec.ofChange fnExactRoomsInSpec)

/-- ITS FALSE NEIGHBOUR: 'it returns false'. Refute it at one input. -/
def fnExactRoomsInWrong : ChangeSpec := { name := "fnExactRoomsIn", fn := fun _ => fun
  | [d] => { results := [.lit (.bool false)], args := [d] }
  | _ => none }
def FnExactRoomsInWrongFalsely : Prop := fnExactRoomsInRow.holds Try.pinned (OpenSpec.ofChange fnExactRoomsInWrong)

/-- 'laws.FnExactWorldNew': WHATEVER THE INPUT: true; the input reads as it did. -/
def fnExactWorldNewSpec : ChangeSpec := { name := "fnExactWorldNew", fn := fun _ => fun
  | [d] => { results := [.lit (.bool true)], args := [d] }
  | _ => none }
def fnExactWorldNewRow : OpenClaim := { program := "ytmnfcahbmlfccaa", sum := "fa49c895f56a8c1687bc812cdccd72bb0a2b9a9d84d0a6834f7779cc412cc804", func := "loop.example/g00499/laws.FnExactWorldNew", spec := "fnExactWorldNew", apart := false }
def FnExactWorldNewSaid : Prop := fnExactWorldNewRow.holds Try.pinned (OpenSpec.ofChange fnExactWorldNewSpec)

/-- ITS FALSE NEIGHBOUR: 'it returns false'. Refute it at one input. -/
def fnExactWorldNewWrong : ChangeSpec := { name := "fnExactWorldNew", fn := fun _ => fun
  | [d] => { results := [.lit (.bool false)], args := [d] }
  | _ => none }
def FnExactWorldNewWrongFalsely : Prop := fnExactWorldNewRow.holds Try.pinned (OpenSpec.ofChange fnExactWorldNewWrong)

/-- 'laws.FnExactTagsOf': WHATEVER THE INPUT: true; the input reads as it did. -/
def fnExactTagsOfSpec : ChangeSpec := { name := "fnExactTagsOf", fn := fun _ => fun
  | [d1, d2] => { results := [.lit (.bool true)], args := [d1, d2] }
  | _ => none }
def fnExactTagsOfRow : OpenClaim := { program := "ytmnfcahbmlfccaa", sum := "fa49c895f56a8c1687bc812cdccd72bb0a2b9a9d84d0a6834f7779cc412cc804", func := "loop.example/g00499/laws.FnExactTagsOf", spec := "fnExactTagsOf", recurses := true, apart := false }
def FnExactTagsOfSaid : Prop := fnExactTagsOfRow.holds Try.pinned (OpenSpec.ofChange fnExactTagsOfSpec)

/-- ITS FALSE NEIGHBOUR: 'it returns false'. Refute it at one input. -/
def fnExactTagsOfWrong : ChangeSpec := { name := "fnExactTagsOf", fn := fun _ => fun
  | [d1, d2] => { results := [.lit (.bool false)], args := [d1, d2] }
  | _ => none }
def FnExactTagsOfWrongFalsely : Prop := fnExactTagsOfRow.holds Try.pinned (OpenSpec.ofChange fnExactTagsOfWrong)

/-- 'laws.FnExactPending': WHATEVER THE INPUT: true; the input reads as it did. -/
def fnExactPendingSpec : ChangeSpec := { name := "fnExactPending", fn := fun _ => fun
  | [d] => { results := [.lit (.bool true)], args := [d] }
  | _ => none }
def fnExactPendingRow : OpenClaim := { program := "ytmnfcahbmlfccaa", sum := "fa49c895f56a8c1687bc812cdccd72bb0a2b9a9d84d0a6834f7779cc412cc804", func := "loop.example/g00499/laws.FnExactPending", spec := "fnExactPending", recurses := true, apart := false }
def FnExactPendingSaid : Prop := fnExactPendingRow.holds Try.pinned (OpenSpec.ofChange fnExactPendingSpec)

/-- ITS FALSE NEIGHBOUR: 'it returns false'. Refute it at one input. -/
def fnExactPendingWrong : ChangeSpec := { name := "fnExactPending", fn := fun _ => fun
  | [d] => { results := [.lit (.bool false)], args := [d] }
  | _ => none }
def FnExactPendingWrongFalsely : Prop := fnExactPendingRow.holds Try.pinned (OpenSpec.ofChange fnExactPendingWrong)

/-- 'laws.FnExactThingsIn': WHATEVER THE INPUT: true; the input reads as it did. -/
def fnExactThingsInSpec : ChangeSpec := { name := "fnExactThingsIn", fn := fun _ => fun
  | [d1, d2] => { results := [.lit (.bool true)], args := [d1, d2] }
  | _ => none }
def fnExactThingsInRow : OpenClaim := { program := "ytmnfcahbmlfccaa", sum := "fa49c895f56a8c1687bc812cdccd72bb0a2b9a9d84d0a6834f7779cc412cc804", func := "loop.example/g00499/laws.FnExactThingsIn", spec := "fnExactThingsIn", apart := false }
def FnExactThingsInSaid : Prop := fnExactThingsInRow.holds Try.pinned (OpenSpec.ofChange fnExactThingsInSpec)

/-- ITS FALSE NEIGHBOUR: 'it returns false'. Refute it at one input. -/
def fnExactThingsInWrong : ChangeSpec := { name := "fnExactThingsIn", fn := fun _ => fun
  | [d1, d2] => { results := [.lit (.bool false)], args := [d1, d2] }
  | _ => none }
def FnExactThingsInWrongFalsely : Prop := fnExactThingsInRow.holds Try.pinned (OpenSpec.ofChange fnExactThingsInWrong)

/-- 'laws.FnExactLeaveIn': WHATEVER THE INPUT: true; the input reads as it did. -/
def fnExactLeaveInSpec : ChangeSpec := { name := "fnExactLeaveIn", fn := fun _ => fun
  | [d1, d2] => { results := [.lit (.bool true)], args := [d1, d2] }
  | _ => none }
def fnExactLeaveInRow : OpenClaim := { program := "ytmnfcahbmlfccaa", sum := "fa49c895f56a8c1687bc812cdccd72bb0a2b9a9d84d0a6834f7779cc412cc804", func := "loop.example/g00499/laws.FnExactLeaveIn", spec := "fnExactLeaveIn", apart := false }
def FnExactLeaveInSaid : Prop := fnExactLeaveInRow.holds Try.pinned (OpenSpec.ofChange fnExactLeaveInSpec)

/-- ITS FALSE NEIGHBOUR: 'it returns false'. Refute it at one input. -/
def fnExactLeaveInWrong : ChangeSpec := { name := "fnExactLeaveIn", fn := fun _ => fun
  | [d1, d2] => { results := [.lit (.bool false)], args := [d1, d2] }
  | _ => none }
def FnExactLeaveInWrongFalsely : Prop := fnExactLeaveInRow.holds Try.pinned (OpenSpec.ofChange fnExactLeaveInWrong)

/-- 'laws.FnExactLeave': WHATEVER THE INPUT: true; the input reads as it did. -/
def fnExactLeaveSpec : ChangeSpec := { name := "fnExactLeave", fn := fun _ => fun
  | [d1, d2] => { results := [.lit (.bool true)], args := [d1, d2] }
  | _ => none }
def fnExactLeaveRow : OpenClaim := { program := "ytmnfcahbmlfccaa", sum := "fa49c895f56a8c1687bc812cdccd72bb0a2b9a9d84d0a6834f7779cc412cc804", func := "loop.example/g00499/laws.FnExactLeave", spec := "fnExactLeave", apart := false }
def FnExactLeaveSaid : Prop := fnExactLeaveRow.holds Try.pinned (OpenSpec.ofChange fnExactLeaveSpec)

/-- ITS FALSE NEIGHBOUR: 'it returns false'. Refute it at one input. -/
def fnExactLeaveWrong : ChangeSpec := { name := "fnExactLeave", fn := fun _ => fun
  | [d1, d2] => { results := [.lit (.bool false)], args := [d1, d2] }
  | _ => none }
def FnExactLeaveWrongFalsely : Prop := fnExactLeaveRow.holds Try.pinned (OpenSpec.ofChange fnExactLeaveWrong)

/- THE SECOND FORM. 'bulk': how many values and letters a reading holds, each counted each time it is reached (what is shared counts as often as it is met; a slice's spare places count too). A statement '..UptoSaid' is the law's where the arguments, and the package variables that the reading takes, are together of bulk at most 1048576: NARROWER than '..Said'. Prove '..Said' where nothing that the law and all that it calls make is longer than what came in: it says more and counts as full. Else prove '..UptoSaid'. A law counts once. -/
mutual
def uptoBulk {H : Type} : DataW H → Nat
  | .lit (.string bytes) => bytes.length + 1
  | .lit _ => 1
  | .nil => 1
  | .ptr d => uptoBulk d + 1
  | .slice elems spare => uptoBulkAll elems + uptoBulkAll spare + 1
  | .agg parts => uptoBulkAll parts + 1
  | .iface _ d => uptoBulk d + 1
  | .map entries => uptoBulkEntries entries + 1
  | .held _ => 1
def uptoBulkAll {H : Type} : List (DataW H) → Nat
  | [] => 0
  | d :: r => uptoBulk d + uptoBulkAll r
def uptoBulkEntries {H : Type} : List (Lit × DataW H) → Nat
  | [] => 0
  | x :: r => uptoBulkEntry x + uptoBulkEntries r
def uptoBulkEntry {H : Type} : Lit × DataW H → Nat
  | (.string bytes, d) => bytes.length + uptoBulk d + 1
  | (_, d) => uptoBulk d + 1
 end
def uptoSmall : (H : Type) → List (DataW H) → Bool := fun _ ds => decide (uptoBulkAll ds ≤ 1048576)
def OpenSpec.upto (s : _root_.Go.ChangeSpec) : _root_.Go.OpenSpec := { _root_.Go.OpenSpec.ofChange s with cond := some uptoSmall }

/-- 'laws.FnExactTreeOk', WHERE WHAT IT READS IS OF BULK AT MOST 1048576: true; the input reads as it did. -/
def fnExactTreeOkUptoRow : OpenClaim := { program := "ytmnfcahbmlfccaa", sum := "fa49c895f56a8c1687bc812cdccd72bb0a2b9a9d84d0a6834f7779cc412cc804", func := "loop.example/g00499/laws.FnExactTreeOk", spec := "fnExactTreeOk", apart := false, narrowed := true }
def FnExactTreeOkUptoSaid : Prop := fnExactTreeOkUptoRow.holds Try.pinned (OpenSpec.upto fnExactTreeOkSpec)

/-- 'laws.FnExactUnlink', WHERE WHAT IT READS IS OF BULK AT MOST 1048576: true; the input reads as it did. -/
def fnExactUnlinkUptoRow : OpenClaim := { program := "ytmnfcahbmlfccaa", sum := "fa49c895f56a8c1687bc812cdccd72bb0a2b9a9d84d0a6834f7779cc412cc804", func := "loop.example/g00499/laws.FnExactUnlink", spec := "fnExactUnlink", apart := false, narrowed := true }
def FnExactUnlinkUptoSaid : Prop := fnExactUnlinkUptoRow.holds Try.pinned (OpenSpec.upto fnExactUnlinkSpec)

/-- 'laws.FnExactNewCur', WHERE WHAT IT READS IS OF BULK AT MOST 1048576: true; the input reads as it did. -/
def fnExactNewCurUptoRow : OpenClaim := { program := "ytmnfcahbmlfccaa", sum := "fa49c895f56a8c1687bc812cdccd72bb0a2b9a9d84d0a6834f7779cc412cc804", func := "loop.example/g00499/laws.FnExactNewCur", spec := "fnExactNewCur", unfollowed := true, recurses := true, apart := false, narrowed := true }
def FnExactNewCurUptoSaid : Prop := fnExactNewCurUptoRow.holds Try.pinned (OpenSpec.upto fnExactNewCurSpec)

/-- 'laws.FnExactPutLarge', WHERE WHAT IT READS IS OF BULK AT MOST 1048576: true; the input reads as it did. -/
def fnExactPutLargeUptoRow : OpenClaim := { program := "ytmnfcahbmlfccaa", sum := "fa49c895f56a8c1687bc812cdccd72bb0a2b9a9d84d0a6834f7779cc412cc804", func := "loop.example/g00499/laws.FnExactPutLarge", spec := "fnExactPutLarge", unfollowed := true, recurses := true, apart := false, narrowed := true }
def FnExactPutLargeUptoSaid : Prop := fnExactPutLargeUptoRow.holds Try.pinned (OpenSpec.upto fnExactPutLargeSpec)

/-- 'laws.FnExactWorthOf', WHERE WHAT IT READS IS OF BULK AT MOST 1048576: true; the input reads as it did. -/
def fnExactWorthOfUptoRow : OpenClaim := { program := "ytmnfcahbmlfccaa", sum := "fa49c895f56a8c1687bc812cdccd72bb0a2b9a9d84d0a6834f7779cc412cc804", func := "loop.example/g00499/laws.FnExactWorthOf", spec := "fnExactWorthOf", recurses := true, apart := false, narrowed := true }
def FnExactWorthOfUptoSaid : Prop := fnExactWorthOfUptoRow.holds Try.pinned (OpenSpec.upto fnExactWorthOfSpec)

/-- 'laws.FnExactRoomsIn', WHERE WHAT IT READS IS OF BULK AT MOST 1048576: true; the input reads as it did. -/
def fnExactRoomsInUptoRow : OpenClaim := { program := "ytmnfcahbmlfccaa", sum := "fa49c895f56a8c1687bc812cdccd72bb0a2b9a9d84d0a6834f7779cc412cc804", func := "loop.example/g00499/laws.FnExactRoomsIn", spec := "fnExactRoomsIn", apart := false, narrowed := true }
def FnExactRoomsInUptoSaid : Prop := fnExactRoomsInUptoRow.holds Try.pinned (OpenSpec.upto fnExactRoomsInSpec)

/-- 'laws.FnExactWorldNew', WHERE WHAT IT READS IS OF BULK AT MOST 1048576: true; the input reads as it did. -/
def fnExactWorldNewUptoRow : OpenClaim := { program := "ytmnfcahbmlfccaa", sum := "fa49c895f56a8c1687bc812cdccd72bb0a2b9a9d84d0a6834f7779cc412cc804", func := "loop.example/g00499/laws.FnExactWorldNew", spec := "fnExactWorldNew", apart := false, narrowed := true }
def FnExactWorldNewUptoSaid : Prop := fnExactWorldNewUptoRow.holds Try.pinned (OpenSpec.upto fnExactWorldNewSpec)

/-- 'laws.FnExactTagsOf', WHERE WHAT IT READS IS OF BULK AT MOST 1048576: true; the input reads as it did. -/
def fnExactTagsOfUptoRow : OpenClaim := { program := "ytmnfcahbmlfccaa", sum := "fa49c895f56a8c1687bc812cdccd72bb0a2b9a9d84d0a6834f7779cc412cc804", func := "loop.example/g00499/laws.FnExactTagsOf", spec := "fnExactTagsOf", recurses := true, apart := false, narrowed := true }
def FnExactTagsOfUptoSaid : Prop := fnExactTagsOfUptoRow.holds Try.pinned (OpenSpec.upto fnExactTagsOfSpec)

/-- 'laws.FnExactPending', WHERE WHAT IT READS IS OF BULK AT MOST 1048576: true; the input reads as it did. -/
def fnExactPendingUptoRow : OpenClaim := { program := "ytmnfcahbmlfccaa", sum := "fa49c895f56a8c1687bc812cdccd72bb0a2b9a9d84d0a6834f7779cc412cc804", func := "loop.example/g00499/laws.FnExactPending", spec := "fnExactPending", recurses := true, apart := false, narrowed := true }
def FnExactPendingUptoSaid : Prop := fnExactPendingUptoRow.holds Try.pinned (OpenSpec.upto fnExactPendingSpec)

/-- 'laws.FnExactThingsIn', WHERE WHAT IT READS IS OF BULK AT MOST 1048576: true; the input reads as it did. -/
def fnExactThingsInUptoRow : OpenClaim := { program := "ytmnfcahbmlfccaa", sum := "fa49c895f56a8c1687bc812cdccd72bb0a2b9a9d84d0a6834f7779cc412cc804", func := "loop.example/g00499/laws.FnExactThingsIn", spec := "fnExactThingsIn", apart := false, narrowed := true }
def FnExactThingsInUptoSaid : Prop := fnExactThingsInUptoRow.holds Try.pinned (OpenSpec.upto fnExactThingsInSpec)

/-- 'laws.FnExactLeaveIn', WHERE WHAT IT READS IS OF BULK AT MOST 1048576: true; the input reads as it did. -/
def fnExactLeaveInUptoRow : OpenClaim := { program := "ytmnfcahbmlfccaa", sum := "fa49c895f56a8c1687bc812cdccd72bb0a2b9a9d84d0a6834f7779cc412cc804", func := "loop.example/g00499/laws.FnExactLeaveIn", spec := "fnExactLeaveIn", apart := false, narrowed := true }
def FnExactLeaveInUptoSaid : Prop := fnExactLeaveInUptoRow.holds Try.pinned (OpenSpec.upto fnExactLeaveInSpec)

/-- 'laws.FnExactLeave', WHERE WHAT IT READS IS OF BULK AT MOST 1048576: true; the input reads as it did. -/
def fnExactLeaveUptoRow : OpenClaim := { program := "ytmnfcahbmlfccaa", sum := "fa49c895f56a8c1687bc812cdccd72bb0a2b9a9d84d0a6834f7779cc412cc804", func := "loop.example/g00499/laws.FnExactLeave", spec := "fnExactLeave", apart := false, narrowed := true }
def FnExactLeaveUptoSaid : Prop := fnExactLeaveUptoRow.holds Try.pinned (OpenSpec.upto fnExactLeaveSpec)

end Rows
end Go.Proofs.Ytmnfcahbmlfccaa
