/-
  No cell of these rows narrows 'for every input' (looked for: loops, veiled, ifaces, maps, wideKeys, modest, calm, conditions, laid).
  DERIVED. THE GIVEN ROWS OF THIS SEAT. 12 by the template 'for every input the law returns true; each argument reads behind the call as it read before'; 0 by the template 'total and deterministic' (their statements: YtghopnjkgelbkaaTotals.lean).
  GIVEN WITH THE SEED: the statements are not yours to turn. If you find one false, say at which input.
  Laid BY PROGRAM, IN A SANDBOX (cutbox-rows.mjs): the forced cells as the released guide's own fill.sh prints them over the translation 8de0b43f0f07403f… (all of the seat's roots in one cut). By AI agents, Wed Nov 11 2026. No macro, syntax, notation, axiom, sorry.
-/
import Derived.Test.YtghopnjkgelbkaaChecked
import GoSem.Claim
import GoSem.ClaimJoined
import GoSem.ClaimMapViews
import Derived.JoinedTies
import Derived.KernelRfl
namespace Go.Proofs.Ytghopnjkgelbkaa
/- THE CELL 'sum', in the pinned program and in every row, IS THE sha256 OF THE DUMP (.gsa) THAT YtghopnjkgelbkaaProg.lean LOADS. Nothing in Lean hashes anything: it is a label: what it is worth is what the hold of that sum in a sandbox is worth. -/
noncomputable def Try.pinned : Pinned := { name := "ytghopnjkgelbkaa", sum := "8de0b43f0f07403f81198aadbf7718a922a46b7437ed9a7a4908b3be0759dc20", checked := Try.checked }
namespace Rows
def none {H : Type} : Left H := { results := [], args := [] }

/-- 'laws.FnExactPutSmall': WHATEVER THE INPUT: true; the input reads as it did. -/
def fnExactPutSmallSpec : ChangeSpec := { name := "fnExactPutSmall", fn := fun _ => fun
  | [d1, d2, d3, d4] => { results := [.lit (.bool true)], args := [d1, d2, d3, d4] }
  | _ => none }
def fnExactPutSmallRow : OpenClaim := { program := "ytghopnjkgelbkaa", sum := "8de0b43f0f07403f81198aadbf7718a922a46b7437ed9a7a4908b3be0759dc20", func := "loop.example/g00499/laws.FnExactPutSmall", spec := "fnExactPutSmall", unfollowed := true, recurses := true, apart := false }
def FnExactPutSmallSaid : Prop := fnExactPutSmallRow.holds Try.pinned (OpenSpec.ofChange fnExactPutSmallSpec)

/-- ITS FALSE NEIGHBOUR: 'it returns false'. Refute it at one input. -/
def fnExactPutSmallWrong : ChangeSpec := { name := "fnExactPutSmall", fn := fun _ => fun
  | [d1, d2, d3, d4] => { results := [.lit (.bool false)], args := [d1, d2, d3, d4] }
  | _ => none }
def FnExactPutSmallWrongFalsely : Prop := fnExactPutSmallRow.holds Try.pinned (OpenSpec.ofChange fnExactPutSmallWrong)

/-- 'laws.FnExactSameWorld': WHATEVER THE INPUT: true; the input reads as it did. -/
def fnExactSameWorldSpec : ChangeSpec := { name := "fnExactSameWorld", fn := fun _ => fun
  | [d1, d2] => { results := [.lit (.bool true)], args := [d1, d2] }
  | _ => none }
def fnExactSameWorldRow : OpenClaim := { program := "ytghopnjkgelbkaa", sum := "8de0b43f0f07403f81198aadbf7718a922a46b7437ed9a7a4908b3be0759dc20", func := "loop.example/g00499/laws.FnExactSameWorld", spec := "fnExactSameWorld", unfollowed := true, recurses := true, apart := false }
def FnExactSameWorldSaid : Prop := fnExactSameWorldRow.holds Try.pinned (OpenSpec.ofChange fnExactSameWorldSpec)

/-- ITS FALSE NEIGHBOUR: 'it returns false'. Refute it at one input. -/
def fnExactSameWorldWrong : ChangeSpec := { name := "fnExactSameWorld", fn := fun _ => fun
  | [d1, d2] => { results := [.lit (.bool false)], args := [d1, d2] }
  | _ => none }
def FnExactSameWorldWrongFalsely : Prop := fnExactSameWorldRow.holds Try.pinned (OpenSpec.ofChange fnExactSameWorldWrong)

/-- 'laws.FnExactFindRoom': WHATEVER THE INPUT: true; the input reads as it did. -/
def fnExactFindRoomSpec : ChangeSpec := { name := "fnExactFindRoom", fn := fun _ => fun
  | [d1, d2] => { results := [.lit (.bool true)], args := [d1, d2] }
  | _ => none }
def fnExactFindRoomRow : OpenClaim := { program := "ytghopnjkgelbkaa", sum := "8de0b43f0f07403f81198aadbf7718a922a46b7437ed9a7a4908b3be0759dc20", func := "loop.example/g00499/laws.FnExactFindRoom", spec := "fnExactFindRoom", apart := false }
def FnExactFindRoomSaid : Prop := fnExactFindRoomRow.holds Try.pinned (OpenSpec.ofChange fnExactFindRoomSpec)

/-- ITS FALSE NEIGHBOUR: 'it returns false'. Refute it at one input. -/
def fnExactFindRoomWrong : ChangeSpec := { name := "fnExactFindRoom", fn := fun _ => fun
  | [d1, d2] => { results := [.lit (.bool false)], args := [d1, d2] }
  | _ => none }
def FnExactFindRoomWrongFalsely : Prop := fnExactFindRoomRow.holds Try.pinned (OpenSpec.ofChange fnExactFindRoomWrong)

/-- 'laws.FnExactChunksIn': WHATEVER THE INPUT: true; the input reads as it did. -/
def fnExactChunksInSpec : ChangeSpec := { name := "fnExactChunksIn", fn := fun _ => fun
  | [d] => { results := [.lit (.bool true)], args := [d] }
  | _ => none }
def fnExactChunksInRow : OpenClaim := { program := "ytghopnjkgelbkaa", sum := "8de0b43f0f07403f81198aadbf7718a922a46b7437ed9a7a4908b3be0759dc20", func := "loop.example/g00499/laws.FnExactChunksIn", spec := "fnExactChunksIn", apart := false }
def FnExactChunksInSaid : Prop := fnExactChunksInRow.holds Try.pinned (OpenSpec.ofChange fnExactChunksInSpec)

/-- ITS FALSE NEIGHBOUR: 'it returns false'. Refute it at one input. -/
def fnExactChunksInWrong : ChangeSpec := { name := "fnExactChunksIn", fn := fun _ => fun
  | [d] => { results := [.lit (.bool false)], args := [d] }
  | _ => none }
def FnExactChunksInWrongFalsely : Prop := fnExactChunksInRow.holds Try.pinned (OpenSpec.ofChange fnExactChunksInWrong)

/-- 'laws.FnExactFitsMore': WHATEVER THE INPUT: true; the input reads as it did. -/
def fnExactFitsMoreSpec : ChangeSpec := { name := "fnExactFitsMore", fn := fun _ => fun
  | [d1, d2] => { results := [.lit (.bool true)], args := [d1, d2] }
  | _ => none }
def fnExactFitsMoreRow : OpenClaim := { program := "ytghopnjkgelbkaa", sum := "8de0b43f0f07403f81198aadbf7718a922a46b7437ed9a7a4908b3be0759dc20", func := "loop.example/g00499/laws.FnExactFitsMore", spec := "fnExactFitsMore", apart := false }
def FnExactFitsMoreSaid : Prop := fnExactFitsMoreRow.holds Try.pinned (OpenSpec.ofChange fnExactFitsMoreSpec)

/-- ITS FALSE NEIGHBOUR: 'it returns false'. Refute it at one input. -/
def fnExactFitsMoreWrong : ChangeSpec := { name := "fnExactFitsMore", fn := fun _ => fun
  | [d1, d2] => { results := [.lit (.bool false)], args := [d1, d2] }
  | _ => none }
def FnExactFitsMoreWrongFalsely : Prop := fnExactFitsMoreRow.holds Try.pinned (OpenSpec.ofChange fnExactFitsMoreWrong)

/-- 'laws.FnExactDeepOfRoom': WHATEVER THE INPUT: true; the input reads as it did. -/
def fnExactDeepOfRoomSpec : ChangeSpec := { name := "fnExactDeepOfRoom", fn := fun _ => fun
  | [d1, d2] => { results := [.lit (.bool true)], args := [d1, d2] }
  | _ => none }
def fnExactDeepOfRoomRow : OpenClaim := { program := "ytghopnjkgelbkaa", sum := "8de0b43f0f07403f81198aadbf7718a922a46b7437ed9a7a4908b3be0759dc20", func := "loop.example/g00499/laws.FnExactDeepOfRoom", spec := "fnExactDeepOfRoom", apart := false }
def FnExactDeepOfRoomSaid : Prop := fnExactDeepOfRoomRow.holds Try.pinned (OpenSpec.ofChange fnExactDeepOfRoomSpec)

/-- ITS FALSE NEIGHBOUR: 'it returns false'. Refute it at one input. -/
def fnExactDeepOfRoomWrong : ChangeSpec := { name := "fnExactDeepOfRoom", fn := fun _ => fun
  | [d1, d2] => { results := [.lit (.bool false)], args := [d1, d2] }
  | _ => none }
def FnExactDeepOfRoomWrongFalsely : Prop := fnExactDeepOfRoomRow.holds Try.pinned (OpenSpec.ofChange fnExactDeepOfRoomWrong)

/-- 'laws.FnExactDebtOf': WHATEVER THE INPUT: true; the input reads as it did. -/
def fnExactDebtOfSpec : ChangeSpec := { name := "fnExactDebtOf", fn := fun _ => fun
  | [d1, d2] => { results := [.lit (.bool true)], args := [d1, d2] }
  | _ => none }
def fnExactDebtOfRow : OpenClaim := { program := "ytghopnjkgelbkaa", sum := "8de0b43f0f07403f81198aadbf7718a922a46b7437ed9a7a4908b3be0759dc20", func := "loop.example/g00499/laws.FnExactDebtOf", spec := "fnExactDebtOf", recurses := true, apart := false }
def FnExactDebtOfSaid : Prop := fnExactDebtOfRow.holds Try.pinned (OpenSpec.ofChange fnExactDebtOfSpec)

/-- ITS FALSE NEIGHBOUR: 'it returns false'. Refute it at one input. -/
def fnExactDebtOfWrong : ChangeSpec := { name := "fnExactDebtOf", fn := fun _ => fun
  | [d1, d2] => { results := [.lit (.bool false)], args := [d1, d2] }
  | _ => none }
def FnExactDebtOfWrongFalsely : Prop := fnExactDebtOfRow.holds Try.pinned (OpenSpec.ofChange fnExactDebtOfWrong)

/-- 'laws.FnExactUpOf': WHATEVER THE INPUT: true; the input reads as it did. -/
def fnExactUpOfSpec : ChangeSpec := { name := "fnExactUpOf", fn := fun _ => fun
  | [d1, d2] => { results := [.lit (.bool true)], args := [d1, d2] }
  | _ => none }
def fnExactUpOfRow : OpenClaim := { program := "ytghopnjkgelbkaa", sum := "8de0b43f0f07403f81198aadbf7718a922a46b7437ed9a7a4908b3be0759dc20", func := "loop.example/g00499/laws.FnExactUpOf", spec := "fnExactUpOf", apart := false }
def FnExactUpOfSaid : Prop := fnExactUpOfRow.holds Try.pinned (OpenSpec.ofChange fnExactUpOfSpec)

/-- ITS FALSE NEIGHBOUR: 'it returns false'. Refute it at one input. -/
def fnExactUpOfWrong : ChangeSpec := { name := "fnExactUpOf", fn := fun _ => fun
  | [d1, d2] => { results := [.lit (.bool false)], args := [d1, d2] }
  | _ => none }
def FnExactUpOfWrongFalsely : Prop := fnExactUpOfRow.holds Try.pinned (OpenSpec.ofChange fnExactUpOfWrong)

/-- 'laws.FnExactDebtAt': WHATEVER THE INPUT: true; the input reads as it did. -/
def fnExactDebtAtSpec : ChangeSpec := { name := "fnExactDebtAt", fn := fun _ => fun
  | [d1, d2] => { results := [.lit (.bool true)], args := [d1, d2] }
  | _ => none }
def fnExactDebtAtRow : OpenClaim := { program := "ytghopnjkgelbkaa", sum := "8de0b43f0f07403f81198aadbf7718a922a46b7437ed9a7a4908b3be0759dc20", func := "loop.example/g00499/laws.FnExactDebtAt", spec := "fnExactDebtAt", recurses := true, apart := false }
def FnExactDebtAtSaid : Prop := fnExactDebtAtRow.holds Try.pinned (OpenSpec.ofChange fnExactDebtAtSpec)

/-- ITS FALSE NEIGHBOUR: 'it returns false'. Refute it at one input. -/
def fnExactDebtAtWrong : ChangeSpec := { name := "fnExactDebtAt", fn := fun _ => fun
  | [d1, d2] => { results := [.lit (.bool false)], args := [d1, d2] }
  | _ => none }
def FnExactDebtAtWrongFalsely : Prop := fnExactDebtAtRow.holds Try.pinned (OpenSpec.ofChange fnExactDebtAtWrong)

/-- 'laws.FnExactFindThing': WHATEVER THE INPUT: true; the input reads as it did. -/
def fnExactFindThingSpec : ChangeSpec := { name := "fnExactFindThing", fn := fun _ => fun
  | [d1, d2] => { results := [.lit (.bool true)], args := [d1, d2] }
  | _ => none }
def fnExactFindThingRow : OpenClaim := { program := "ytghopnjkgelbkaa", sum := "8de0b43f0f07403f81198aadbf7718a922a46b7437ed9a7a4908b3be0759dc20", func := "loop.example/g00499/laws.FnExactFindThing", spec := "fnExactFindThing", apart := false }
def FnExactFindThingSaid : Prop := fnExactFindThingRow.holds Try.pinned (OpenSpec.ofChange fnExactFindThingSpec)

/-- ITS FALSE NEIGHBOUR: 'it returns false'. Refute it at one input. -/
def fnExactFindThingWrong : ChangeSpec := { name := "fnExactFindThing", fn := fun _ => fun
  | [d1, d2] => { results := [.lit (.bool false)], args := [d1, d2] }
  | _ => none }
def FnExactFindThingWrongFalsely : Prop := fnExactFindThingRow.holds Try.pinned (OpenSpec.ofChange fnExactFindThingWrong)

/-- 'laws.FnWastes': WHATEVER THE INPUT: true; the input reads as it did. -/
def fnWastesSpec : ChangeSpec := { name := "fnWastes", fn := fun _ => fun
  | [d] => { results := [.lit (.bool true)], args := [d] }
  | _ => none }
def fnWastesRow : OpenClaim := { program := "ytghopnjkgelbkaa", sum := "8de0b43f0f07403f81198aadbf7718a922a46b7437ed9a7a4908b3be0759dc20", func := "loop.example/g00499/laws.FnWastes", spec := "fnWastes", unfollowed := true, recurses := true, apart := false }
def FnWastesSaid : Prop := fnWastesRow.holds Try.pinned (OpenSpec.ofChange fnWastesSpec)

/-- ITS FALSE NEIGHBOUR: 'it returns false'. Refute it at one input. -/
def fnWastesWrong : ChangeSpec := { name := "fnWastes", fn := fun _ => fun
  | [d] => { results := [.lit (.bool false)], args := [d] }
  | _ => none }
def FnWastesWrongFalsely : Prop := fnWastesRow.holds Try.pinned (OpenSpec.ofChange fnWastesWrong)

/-- 'laws.FnExactDebt': WHATEVER THE INPUT: true; the input reads as it did. -/
def fnExactDebtSpec : ChangeSpec := { name := "fnExactDebt", fn := fun _ => fun
  | [d] => { results := [.lit (.bool true)], args := [d] }
  | _ => none }
def fnExactDebtRow : OpenClaim := { program := "ytghopnjkgelbkaa", sum := "8de0b43f0f07403f81198aadbf7718a922a46b7437ed9a7a4908b3be0759dc20", func := "loop.example/g00499/laws.FnExactDebt", spec := "fnExactDebt", recurses := true, apart := false }
def FnExactDebtSaid : Prop := fnExactDebtRow.holds Try.pinned (OpenSpec.ofChange fnExactDebtSpec)

/-- ITS FALSE NEIGHBOUR: 'it returns false'. Refute it at one input. -/
def fnExactDebtWrong : ChangeSpec := { name := "fnExactDebt", fn := fun _ => fun
  | [d] => { results := [.lit (.bool false)], args := [d] }
  | _ => none }
def FnExactDebtWrongFalsely : Prop := fnExactDebtRow.holds Try.pinned (OpenSpec.ofChange fnExactDebtWrong)

/- THE SECOND FORM. 'bulk': how many values and letters a reading holds, each counted each time it is reached (what is shared counts as often as it is met; a slice's spare places count too). A statement '..UptoSaid' is the law's where the arguments, and the package variables that the reading takes, are together of bulk at most 1048576: NARROWER than '..Said'. Prove '..Said' where nothing that the law and all that it calls make is longer than what came in: it says more and counts as full. Else prove '..UptoSaid'. A law counts once. -/
mutual
def uptoBulk {H : Type} : DataW H → Nat
  | .lit (.string bytes) => bytes.length + 1
  | .lit _ => 1
  | .nil => 1
  | .ptr d => uptoBulk d + 1
  | .slice elems spare => uptoBulkAll elems + uptoBulkAll spare + 1
  | .agg parts => uptoBulkAll parts + 1
  | .iface _ d => uptoBulk d + 1
  | .map entries => uptoBulkEntries entries + 1
  | .held _ => 1
def uptoBulkAll {H : Type} : List (DataW H) → Nat
  | [] => 0
  | d :: r => uptoBulk d + uptoBulkAll r
def uptoBulkEntries {H : Type} : List (Lit × DataW H) → Nat
  | [] => 0
  | x :: r => uptoBulkEntry x + uptoBulkEntries r
def uptoBulkEntry {H : Type} : Lit × DataW H → Nat
  | (.string bytes, d) => bytes.length + uptoBulk d + 1
  | (_, d) => uptoBulk d + 1
 end
def uptoSmall : (H : Type) → List (DataW H) → Bool := fun _ ds => decide (uptoBulkAll ds ≤ 1048576)
def OpenSpec.upto (s : _root_.Go.ChangeSpec) : _root_.Go.OpenSpec := { _root_.Go.OpenSpec.ofChange s with cond := some uptoSmall }

/-- 'laws.FnExactPutSmall', WHERE WHAT IT READS IS OF BULK AT MOST 1048576: true; the input reads as it did. -/
def fnExactPutSmallUptoRow : OpenClaim := { program := "ytghopnjkgelbkaa", sum := "8de0b43f0f07403f81198aadbf7718a922a46b7437ed9a7a4908b3be0759dc20", func := "loop.example/g00499/laws.FnExactPutSmall", spec := "fnExactPutSmall", unfollowed := true, recurses := true, apart := false, narrowed := true }
def FnExactPutSmallUptoSaid : Prop := fnExactPutSmallUptoRow.holds Try.pinned (OpenSpec.upto fnExactPutSmallSpec)

/-- 'laws.FnExactSameWorld', WHERE WHAT IT READS IS OF BULK AT MOST 1048576: true; the input reads as it did. -/
def fnExactSameWorldUptoRow : OpenClaim := { program := "ytghopnjkgelbkaa", sum := "8de0b43f0f07403f81198aadbf7718a922a46b7437ed9a7a4908b3be0759dc20", func := "loop.example/g00499/laws.FnExactSameWorld", spec := "fnExactSameWorld", unfollowed := true, recurses := true, apart := false, narrowed := true }
def FnExactSameWorldUptoSaid : Prop := fnExactSameWorldUptoRow.holds Try.pinned (OpenSpec.upto fnExactSameWorldSpec)

/-- 'laws.FnExactFindRoom', WHERE WHAT IT READS IS OF BULK AT MOST 1048576: true; the input reads as it did. -/
def fnExactFindRoomUptoRow : OpenClaim := { program := "ytghopnjkgelbkaa", sum := "8de0b43f0f07403f81198aadbf7718a922a46b7437ed9a7a4908b3be0759dc20", func := "loop.example/g00499/laws.FnExactFindRoom", spec := "fnExactFindRoom", apart := false, narrowed := true }
def FnExactFindRoomUptoSaid : Prop := fnExactFindRoomUptoRow.holds Try.pinned (OpenSpec.upto fnExactFindRoomSpec)

/-- 'laws.FnExactChunksIn', WHERE WHAT IT READS IS OF BULK AT MOST 1048576: true; the input reads as it did. -/
def fnExactChunksInUptoRow : OpenClaim := { program := "ytghopnjkgelbkaa", sum := "8de0b43f0f07403f81198aadbf7718a922a46b7437ed9a7a4908b3be0759dc20", func := "loop.example/g00499/laws.FnExactChunksIn", spec := "fnExactChunksIn", apart := false, narrowed := true }
def FnExactChunksInUptoSaid : Prop := fnExactChunksInUptoRow.holds Try.pinned (OpenSpec.upto fnExactChunksInSpec)

/-- 'laws.FnExactFitsMore', WHERE WHAT IT READS IS OF BULK AT MOST 1048576: true; the input reads as it did. -/
def fnExactFitsMoreUptoRow : OpenClaim := { program := "ytghopnjkgelbkaa", sum := "8de0b43f0f07403f81198aadbf7718a922a46b7437ed9a7a4908b3be0759dc20", func := "loop.example/g00499/laws.FnExactFitsMore", spec := "fnExactFitsMore", apart := false, narrowed := true }
def FnExactFitsMoreUptoSaid : Prop := fnExactFitsMoreUptoRow.holds Try.pinned (OpenSpec.upto fnExactFitsMoreSpec)

/-- 'laws.FnExactDeepOfRoom', WHERE WHAT IT READS IS OF BULK AT MOST 1048576: true; the input reads as it did. -/
def fnExactDeepOfRoomUptoRow : OpenClaim := { program := "ytghopnjkgelbkaa", sum := "8de0b43f0f07403f81198aadbf7718a922a46b7437ed9a7a4908b3be0759dc20", func := "loop.example/g00499/laws.FnExactDeepOfRoom", spec := "fnExactDeepOfRoom", apart := false, narrowed := true }
def FnExactDeepOfRoomUptoSaid : Prop := fnExactDeepOfRoomUptoRow.holds Try.pinned (OpenSpec.upto fnExactDeepOfRoomSpec)

/-- 'laws.FnExactDebtOf', WHERE WHAT IT READS IS OF BULK AT MOST 1048576: true; the input reads as it did. -/
def fnExactDebtOfUptoRow : OpenClaim := { program := "ytghopnjkgelbkaa", sum := "8de0b43f0f07403f81198aadbf7718a922a46b7437ed9a7a4908b3be0759dc20", func := "loop.example/g00499/laws.FnExactDebtOf", spec := "fnExactDebtOf", recurses := true, apart := false, narrowed := true }
def FnExactDebtOfUptoSaid : Prop := fnExactDebtOfUptoRow.holds Try.pinned (OpenSpec.upto fnExactDebtOfSpec)

/-- 'laws.FnExactUpOf', WHERE WHAT IT READS IS OF BULK AT MOST 1048576: true; the input reads as it did. -/
def fnExactUpOfUptoRow : OpenClaim := { program := "ytghopnjkgelbkaa", sum := "8de0b43f0f07403f81198aadbf7718a922a46b7437ed9a7a4908b3be0759dc20", func := "loop.example/g00499/laws.FnExactUpOf", spec := "fnExactUpOf", apart := false, narrowed := true }
def FnExactUpOfUptoSaid : Prop := fnExactUpOfUptoRow.holds Try.pinned (OpenSpec.upto fnExactUpOfSpec)

/-- 'laws.FnExactDebtAt', WHERE WHAT IT READS IS OF BULK AT MOST 1048576: true; the input reads as it did. -/
def fnExactDebtAtUptoRow : OpenClaim := { program := "ytghopnjkgelbkaa", sum := "8de0b43f0f07403f81198aadbf7718a922a46b7437ed9a7a4908b3be0759dc20", func := "loop.example/g00499/laws.FnExactDebtAt", spec := "fnExactDebtAt", recurses := true, apart := false, narrowed := true }
def FnExactDebtAtUptoSaid : Prop := fnExactDebtAtUptoRow.holds Try.pinned (OpenSpec.upto fnExactDebtAtSpec)

/-- 'laws.FnExactFindThing', WHERE WHAT IT READS IS OF BULK AT MOST 1048576: true; the input reads as it did. -/
def fnExactFindThingUptoRow : OpenClaim := { program := "ytghopnjkgelbkaa", sum := "8de0b43f0f07403f81198aadbf7718a922a46b7437ed9a7a4908b3be0759dc20", func := "loop.example/g00499/laws.FnExactFindThing", spec := "fnExactFindThing", apart := false, narrowed := true }
def FnExactFindThingUptoSaid : Prop := fnExactFindThingUptoRow.holds Try.pinned (OpenSpec.upto fnExactFindThingSpec)

/-- 'laws.FnWastes', WHERE WHAT IT READS IS OF BULK AT MOST 1048576: true; the input reads as it did. -/
def fnWastesUptoRow : OpenClaim := { program := "ytghopnjkgelbkaa", sum := "8de0b43f0f07403f81198aadbf7718a922a46b7437ed9a7a4908b3be0759dc20", func := "loop.example/g00499/laws.FnWastes", spec := "fnWastes", unfollowed := true, recurses := true, apart := false, narrowed := true }
def FnWastesUptoSaid : Prop := fnWastesUptoRow.holds Try.pinned (OpenSpec.upto fnWastesSpec)

/-- 'laws.FnExactDebt', WHERE WHAT IT READS IS OF BULK AT MOST 1048576: true; the input reads as it did. -/
def fnExactDebtUptoRow : OpenClaim := { program := "ytghopnjkgelbkaa", sum := "8de0b43f0f07403f81198aadbf7718a922a46b7437ed9a7a4908b3be0759dc20", func := "loop.example/g00499/laws.FnExactDebt", spec := "fnExactDebt", recurses := true, apart := false, narrowed := true }
def FnExactDebtUptoSaid : Prop := fnExactDebtUptoRow.holds Try.pinned (OpenSpec.upto fnExactDebtSpec)

end Rows
end Go.Proofs.Ytghopnjkgelbkaa
