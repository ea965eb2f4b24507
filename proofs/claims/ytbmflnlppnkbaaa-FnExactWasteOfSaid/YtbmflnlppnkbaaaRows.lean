/-
  No cell of these rows narrows 'for every input' (looked for: loops, veiled, ifaces, maps, wideKeys, modest, calm, conditions, laid).
  DERIVED. THE GIVEN ROWS OF THIS SEAT. 12 by the template 'for every input the law returns true; each argument reads behind the call as it read before'; 0 by the template 'total and deterministic' (their statements: YtbmflnlppnkbaaaTotals.lean).
  GIVEN WITH THE SEED: the statements are not yours to turn. If you find one false, say at which input.
  Laid BY PROGRAM, IN A SANDBOX (cutbox-rows.mjs): the forced cells as the released guide's own fill.sh prints them over the translation 87af16b2b471676b… (all of the seat's roots in one cut). By AI agents, Wed Nov 11 2026. No macro, syntax, notation, axiom, sorry.
-/
import Derived.Test.YtbmflnlppnkbaaaChecked
import GoSem.Claim
import GoSem.ClaimJoined
import GoSem.ClaimMapViews
import Derived.JoinedTies
import Derived.KernelRfl
namespace Go.Proofs.Ytbmflnlppnkbaaa
/- THE CELL 'sum', in the pinned program and in every row, IS THE sha256 OF THE DUMP (.gsa) THAT YtbmflnlppnkbaaaProg.lean LOADS. Nothing in Lean hashes anything: it is a label: what it is worth is what the hold of that sum in a sandbox is worth. -/
noncomputable def Try.pinned : Pinned := { name := "ytbmflnlppnkbaaa", sum := "87af16b2b471676bd20aebd65d336fe0161d2081e14d5cf62678f15c47767c13", checked := Try.checked }
namespace Rows
def none {H : Type} : Left H := { results := [], args := [] }

/-- 'laws.FnExactApart': WHATEVER THE INPUT: true; the input reads as it did. -/
def fnExactApartSpec : ChangeSpec := { name := "fnExactApart", fn := fun _ => fun
  | [d1, d2] => { results := [.lit (.bool true)], args := [d1, d2] }
  | _ => none }
def fnExactApartRow : OpenClaim := { program := "ytbmflnlppnkbaaa", sum := "87af16b2b471676bd20aebd65d336fe0161d2081e14d5cf62678f15c47767c13", func := "loop.example/g00499/laws.FnExactApart", spec := "fnExactApart", apart := false }
def FnExactApartSaid : Prop := fnExactApartRow.holds Try.pinned (OpenSpec.ofChange fnExactApartSpec)

/-- ITS FALSE NEIGHBOUR: 'it returns false'. Refute it at one input. -/
def fnExactApartWrong : ChangeSpec := { name := "fnExactApart", fn := fun _ => fun
  | [d1, d2] => { results := [.lit (.bool false)], args := [d1, d2] }
  | _ => none }
def FnExactApartWrongFalsely : Prop := fnExactApartRow.holds Try.pinned (OpenSpec.ofChange fnExactApartWrong)

/-- 'laws.FnExactTagsDown': WHATEVER THE INPUT: true; the input reads as it did. -/
def fnExactTagsDownSpec : ChangeSpec := { name := "fnExactTagsDown", fn := fun _ => fun
  | [d] => { results := [.lit (.bool true)], args := [d] }
  | _ => none }
def fnExactTagsDownRow : OpenClaim := { program := "ytbmflnlppnkbaaa", sum := "87af16b2b471676bd20aebd65d336fe0161d2081e14d5cf62678f15c47767c13", func := "loop.example/g00499/laws.FnExactTagsDown", spec := "fnExactTagsDown", apart := false }
def FnExactTagsDownSaid : Prop := fnExactTagsDownRow.holds Try.pinned (OpenSpec.ofChange fnExactTagsDownSpec)

/-- ITS FALSE NEIGHBOUR: 'it returns false'. Refute it at one input. -/
def fnExactTagsDownWrong : ChangeSpec := { name := "fnExactTagsDown", fn := fun _ => fun
  | [d] => { results := [.lit (.bool false)], args := [d] }
  | _ => none }
def FnExactTagsDownWrongFalsely : Prop := fnExactTagsDownRow.holds Try.pinned (OpenSpec.ofChange fnExactTagsDownWrong)

/-- 'laws.FnExactNextOf': WHATEVER THE INPUT: true; the input reads as it did. -/
def fnExactNextOfSpec : ChangeSpec := { name := "fnExactNextOf", fn := fun _ => fun
  | [d] => { results := [.lit (.bool true)], args := [d] }
  | _ => none }
def fnExactNextOfRow : OpenClaim := { program := "ytbmflnlppnkbaaa", sum := "87af16b2b471676bd20aebd65d336fe0161d2081e14d5cf62678f15c47767c13", func := "loop.example/g00499/laws.FnExactNextOf", spec := "fnExactNextOf", apart := false }
def FnExactNextOfSaid : Prop := fnExactNextOfRow.holds Try.pinned (OpenSpec.ofChange fnExactNextOfSpec)

/-- ITS FALSE NEIGHBOUR: 'it returns false'. Refute it at one input. -/
def fnExactNextOfWrong : ChangeSpec := { name := "fnExactNextOf", fn := fun _ => fun
  | [d] => { results := [.lit (.bool false)], args := [d] }
  | _ => none }
def FnExactNextOfWrongFalsely : Prop := fnExactNextOfRow.holds Try.pinned (OpenSpec.ofChange fnExactNextOfWrong)

/-- 'laws.FnExactAllApart': WHATEVER THE INPUT: true; the input reads as it did. -/
def fnExactAllApartSpec : ChangeSpec := { name := "fnExactAllApart", fn := fun _ => fun
  | [d] => { results := [.lit (.bool true)], args := [d] }
  | _ => none }
def fnExactAllApartRow : OpenClaim := { program := "ytbmflnlppnkbaaa", sum := "87af16b2b471676bd20aebd65d336fe0161d2081e14d5cf62678f15c47767c13", func := "loop.example/g00499/laws.FnExactAllApart", spec := "fnExactAllApart", unfollowed := true, recurses := true, apart := false }
def FnExactAllApartSaid : Prop := fnExactAllApartRow.holds Try.pinned (OpenSpec.ofChange fnExactAllApartSpec)

/-- ITS FALSE NEIGHBOUR: 'it returns false'. Refute it at one input. -/
def fnExactAllApartWrong : ChangeSpec := { name := "fnExactAllApart", fn := fun _ => fun
  | [d] => { results := [.lit (.bool false)], args := [d] }
  | _ => none }
def FnExactAllApartWrongFalsely : Prop := fnExactAllApartRow.holds Try.pinned (OpenSpec.ofChange fnExactAllApartWrong)

/-- 'laws.FnExactReadThing': WHATEVER THE INPUT: true; the input reads as it did. -/
def fnExactReadThingSpec : ChangeSpec := { name := "fnExactReadThing", fn := fun _ => fun
  | [d1, d2, d3, d4] => { results := [.lit (.bool true)], args := [d1, d2, d3, d4] }
  | _ => none }
def fnExactReadThingRow : OpenClaim := { program := "ytbmflnlppnkbaaa", sum := "87af16b2b471676bd20aebd65d336fe0161d2081e14d5cf62678f15c47767c13", func := "loop.example/g00499/laws.FnExactReadThing", spec := "fnExactReadThing", apart := false }
def FnExactReadThingSaid : Prop := fnExactReadThingRow.holds Try.pinned (OpenSpec.ofChange fnExactReadThingSpec)

/-- ITS FALSE NEIGHBOUR: 'it returns false'. Refute it at one input. -/
def fnExactReadThingWrong : ChangeSpec := { name := "fnExactReadThing", fn := fun _ => fun
  | [d1, d2, d3, d4] => { results := [.lit (.bool false)], args := [d1, d2, d3, d4] }
  | _ => none }
def FnExactReadThingWrongFalsely : Prop := fnExactReadThingRow.holds Try.pinned (OpenSpec.ofChange fnExactReadThingWrong)

/-- 'laws.FnExactWriteThing': WHATEVER THE INPUT: true; the input reads as it did. -/
def fnExactWriteThingSpec : ChangeSpec := { name := "fnExactWriteThing", fn := fun _ => fun
  | [d1, d2, d3, d4] => { results := [.lit (.bool true)], args := [d1, d2, d3, d4] }
  | _ => none }
def fnExactWriteThingRow : OpenClaim := { program := "ytbmflnlppnkbaaa", sum := "87af16b2b471676bd20aebd65d336fe0161d2081e14d5cf62678f15c47767c13", func := "loop.example/g00499/laws.FnExactWriteThing", spec := "fnExactWriteThing", apart := false }
def FnExactWriteThingSaid : Prop := fnExactWriteThingRow.holds Try.pinned (OpenSpec.ofChange fnExactWriteThingSpec)

/-- ITS FALSE NEIGHBOUR: 'it returns false'. Refute it at one input. -/
def fnExactWriteThingWrong : ChangeSpec := { name := "fnExactWriteThing", fn := fun _ => fun
  | [d1, d2, d3, d4] => { results := [.lit (.bool false)], args := [d1, d2, d3, d4] }
  | _ => none }
def FnExactWriteThingWrongFalsely : Prop := fnExactWriteThingRow.holds Try.pinned (OpenSpec.ofChange fnExactWriteThingWrong)

/-- 'laws.FnExactOwnSteps': WHATEVER THE INPUT: true; the input reads as it did. -/
def fnExactOwnStepsSpec : ChangeSpec := { name := "fnExactOwnSteps", fn := fun _ => fun
  | [d1, d2] => { results := [.lit (.bool true)], args := [d1, d2] }
  | _ => none }
def fnExactOwnStepsRow : OpenClaim := { program := "ytbmflnlppnkbaaa", sum := "87af16b2b471676bd20aebd65d336fe0161d2081e14d5cf62678f15c47767c13", func := "loop.example/g00499/laws.FnExactOwnSteps", spec := "fnExactOwnSteps", apart := false }
def FnExactOwnStepsSaid : Prop := fnExactOwnStepsRow.holds Try.pinned (OpenSpec.ofChange fnExactOwnStepsSpec)

/-- ITS FALSE NEIGHBOUR: 'it returns false'. Refute it at one input. -/
def fnExactOwnStepsWrong : ChangeSpec := { name := "fnExactOwnSteps", fn := fun _ => fun
  | [d1, d2] => { results := [.lit (.bool false)], args := [d1, d2] }
  | _ => none }
def FnExactOwnStepsWrongFalsely : Prop := fnExactOwnStepsRow.holds Try.pinned (OpenSpec.ofChange fnExactOwnStepsWrong)

/-- 'laws.FnExactWasteOk': WHATEVER THE INPUT: true; the input reads as it did. -/
def fnExactWasteOkSpec : ChangeSpec := { name := "fnExactWasteOk", fn := fun _ => fun
  | [d1, d2] => { results := [.lit (.bool true)], args := [d1, d2] }
  | _ => none }
def fnExactWasteOkRow : OpenClaim := { program := "ytbmflnlppnkbaaa", sum := "87af16b2b471676bd20aebd65d336fe0161d2081e14d5cf62678f15c47767c13", func := "loop.example/g00499/laws.FnExactWasteOk", spec := "fnExactWasteOk", unfollowed := true, recurses := true, apart := false }
def FnExactWasteOkSaid : Prop := fnExactWasteOkRow.holds Try.pinned (OpenSpec.ofChange fnExactWasteOkSpec)

/-- ITS FALSE NEIGHBOUR: 'it returns false'. Refute it at one input. -/
def fnExactWasteOkWrong : ChangeSpec := { name := "fnExactWasteOk", fn := fun _ => fun
  | [d1, d2] => { results := [.lit (.bool false)], args := [d1, d2] }
  | _ => none }
def FnExactWasteOkWrongFalsely : Prop := fnExactWasteOkRow.holds Try.pinned (OpenSpec.ofChange fnExactWasteOkWrong)

/-- 'laws.FnExactThingOf': WHATEVER THE INPUT: true; the input reads as it did. -/
def fnExactThingOfSpec : ChangeSpec := { name := "fnExactThingOf", fn := fun _ => fun
  | [d1, d2] => { results := [.lit (.bool true)], args := [d1, d2] }
  | _ => none }
def fnExactThingOfRow : OpenClaim := { program := "ytbmflnlppnkbaaa", sum := "87af16b2b471676bd20aebd65d336fe0161d2081e14d5cf62678f15c47767c13", func := "loop.example/g00499/laws.FnExactThingOf", spec := "fnExactThingOf", apart := false }
def FnExactThingOfSaid : Prop := fnExactThingOfRow.holds Try.pinned (OpenSpec.ofChange fnExactThingOfSpec)

/-- ITS FALSE NEIGHBOUR: 'it returns false'. Refute it at one input. -/
def fnExactThingOfWrong : ChangeSpec := { name := "fnExactThingOf", fn := fun _ => fun
  | [d1, d2] => { results := [.lit (.bool false)], args := [d1, d2] }
  | _ => none }
def FnExactThingOfWrongFalsely : Prop := fnExactThingOfRow.holds Try.pinned (OpenSpec.ofChange fnExactThingOfWrong)

/-- 'laws.FnExactGone': WHATEVER THE INPUT: true; the input reads as it did. -/
def fnExactGoneSpec : ChangeSpec := { name := "fnExactGone", fn := fun _ => fun
  | [d] => { results := [.lit (.bool true)], args := [d] }
  | _ => none }
def fnExactGoneRow : OpenClaim := { program := "ytbmflnlppnkbaaa", sum := "87af16b2b471676bd20aebd65d336fe0161d2081e14d5cf62678f15c47767c13", func := "loop.example/g00499/laws.FnExactGone", spec := "fnExactGone", apart := false }
def FnExactGoneSaid : Prop := fnExactGoneRow.holds Try.pinned (OpenSpec.ofChange fnExactGoneSpec)

/-- ITS FALSE NEIGHBOUR: 'it returns false'. Refute it at one input. -/
def fnExactGoneWrong : ChangeSpec := { name := "fnExactGone", fn := fun _ => fun
  | [d] => { results := [.lit (.bool false)], args := [d] }
  | _ => none }
def FnExactGoneWrongFalsely : Prop := fnExactGoneRow.holds Try.pinned (OpenSpec.ofChange fnExactGoneWrong)

/-- 'laws.FnExactWasteOf': WHATEVER THE INPUT: true; the input reads as it did. -/
def fnExactWasteOfSpec : ChangeSpec := { name := "fnExactWasteOf", fn := fun _ => fun
  | [d1, d2] => { results := [.lit (.bool true)], args := [d1, d2] }
  | _ => none }
def fnExactWasteOfRow : OpenClaim := { program := "ytbmflnlppnkbaaa", sum := "87af16b2b471676bd20aebd65d336fe0161d2081e14d5cf62678f15c47767c13", func := "loop.example/g00499/laws.FnExactWasteOf", spec := "fnExactWasteOf", apart := false }
def FnExactWasteOfSaid : Prop := fnExactWasteOfRow.holds Try.pinned (OpenSpec.ofChange fnExactWasteOfSpec)

/-- ITS FALSE NEIGHBOUR: 'it returns false'. Refute it at one input. -/
def fnExactWasteOfWrong : ChangeSpec := { name := "fnExactWasteOf", fn := fun _ => fun
  | [d1, d2] => { results := [.lit (.bool false)], args := [d1, d2] }
  | _ => none }
def FnExactWasteOfWrongFalsely : Prop := fnExactWasteOfRow.holds Try.pinned (OpenSpec.ofChange fnExactWasteOfWrong)

/-- 'laws.FnExactEmptied': WHATEVER THE INPUT: true; the input reads as it did. -/
def fnExactEmptiedSpec : ChangeSpec := { name := "fnExactEmptied", fn := fun _ => fun
  | [d] => { results := [.lit (.bool true)], args := [d] }
  | _ => none }
def fnExactEmptiedRow : OpenClaim := { program := "ytbmflnlppnkbaaa", sum := "87af16b2b471676bd20aebd65d336fe0161d2081e14d5cf62678f15c47767c13", func := "loop.example/g00499/laws.FnExactEmptied", spec := "fnExactEmptied", apart := false }
def FnExactEmptiedSaid : Prop := fnExactEmptiedRow.holds Try.pinned (OpenSpec.ofChange fnExactEmptiedSpec)

/-- ITS FALSE NEIGHBOUR: 'it returns false'. Refute it at one input. -/
def fnExactEmptiedWrong : ChangeSpec := { name := "fnExactEmptied", fn := fun _ => fun
  | [d] => { results := [.lit (.bool false)], args := [d] }
  | _ => none }
def FnExactEmptiedWrongFalsely : Prop := fnExactEmptiedRow.holds Try.pinned (OpenSpec.ofChange fnExactEmptiedWrong)

/- THE SECOND FORM. 'bulk': how many values and letters a reading holds, each counted each time it is reached (what is shared counts as often as it is met; a slice's spare places count too). A statement '..UptoSaid' is the law's where the arguments, and the package variables that the reading takes, are together of bulk at most 1048576: NARROWER than '..Said'. Prove '..Said' where nothing that the law and all that it calls make is longer than what came in: it says more and counts as full. Else prove '..UptoSaid'. A law counts once. -/
mutual
def uptoBulk {H : Type} : DataW H → Nat
  | .lit (.string bytes) => bytes.length + 1
  | .lit _ => 1
  | .nil => 1
  | .ptr d => uptoBulk d + 1
  | .slice elems spare => uptoBulkAll elems + uptoBulkAll spare + 1
  | .agg parts => uptoBulkAll parts + 1
  | .iface _ d => uptoBulk d + 1
  | .map entries => uptoBulkEntries entries + 1
  | .held _ => 1
def uptoBulkAll {H : Type} : List (DataW H) → Nat
  | [] => 0
  | d :: r => uptoBulk d + uptoBulkAll r
def uptoBulkEntries {H : Type} : List (Lit × DataW H) → Nat
  | [] => 0
  | x :: r => uptoBulkEntry x + uptoBulkEntries r
def uptoBulkEntry {H : Type} : Lit × DataW H → Nat
  | (.string bytes, d) => bytes.length + uptoBulk d + 1
  | (_, d) => uptoBulk d + 1
 end
def uptoSmall : (H : Type) → List (DataW H) → Bool := fun _ ds => decide (uptoBulkAll ds ≤ 1048576)
def OpenSpec.upto (s : _root_.Go.ChangeSpec) : _root_.Go.OpenSpec := { _root_.Go.OpenSpec.ofChange s with cond := some uptoSmall }

/-- 'laws.FnExactApart', WHERE WHAT IT READS IS OF BULK AT MOST 1048576: true; the input reads as it did. -/
def fnExactApartUptoRow : OpenClaim := { program := "ytbmflnlppnkbaaa", sum := "87af16b2b471676bd20aebd65d336fe0161d2081e14d5cf62678f15c47767c13", func := "loop.example/g00499/laws.FnExactApart", spec := "fnExactApart", apart := false, narrowed := true }
def FnExactApartUptoSaid : Prop := fnExactApartUptoRow.holds Try.pinned (OpenSpec.upto fnExactApartSpec)

/-- 'laws.FnExactTagsDown', WHERE WHAT IT READS IS OF BULK AT MOST 1048576: true; the input reads as it did. -/
def fnExactTagsDownUptoRow : OpenClaim := { program := "ytbmflnlppnkbaaa", sum := "87af16b2b471676bd20aebd65d336fe0161d2081e14d5cf62678f15c47767c13", func := "loop.example/g00499/laws.FnExactTagsDown", spec := "fnExactTagsDown", apart := false, narrowed := true }
def FnExactTagsDownUptoSaid : Prop := fnExactTagsDownUptoRow.holds Try.pinned (OpenSpec.upto fnExactTagsDownSpec)

/-- 'laws.FnExactNextOf', WHERE WHAT IT READS IS OF BULK AT MOST 1048576: true; the input reads as it did. -/
def fnExactNextOfUptoRow : OpenClaim := { program := "ytbmflnlppnkbaaa", sum := "87af16b2b471676bd20aebd65d336fe0161d2081e14d5cf62678f15c47767c13", func := "loop.example/g00499/laws.FnExactNextOf", spec := "fnExactNextOf", apart := false, narrowed := true }
def FnExactNextOfUptoSaid : Prop := fnExactNextOfUptoRow.holds Try.pinned (OpenSpec.upto fnExactNextOfSpec)

/-- 'laws.FnExactAllApart', WHERE WHAT IT READS IS OF BULK AT MOST 1048576: true; the input reads as it did. -/
def fnExactAllApartUptoRow : OpenClaim := { program := "ytbmflnlppnkbaaa", sum := "87af16b2b471676bd20aebd65d336fe0161d2081e14d5cf62678f15c47767c13", func := "loop.example/g00499/laws.FnExactAllApart", spec := "fnExactAllApart", unfollowed := true, recurses := true, apart := false, narrowed := true }
def FnExactAllApartUptoSaid : Prop := fnExactAllApartUptoRow.holds Try.pinned (OpenSpec.upto fnExactAllApartSpec)

/-- 'laws.FnExactReadThing', WHERE WHAT IT READS IS OF BULK AT MOST 1048576: true; the input reads as it did. -/
def fnExactReadThingUptoRow : OpenClaim := { program := "ytbmflnlppnkbaaa", sum := "87af16b2b471676bd20aebd65d336fe0161d2081e14d5cf62678f15c47767c13", func := "loop.example/g00499/laws.FnExactReadThing", spec := "fnExactReadThing", apart := false, narrowed := true }
def FnExactReadThingUptoSaid : Prop := fnExactReadThingUptoRow.holds Try.pinned (OpenSpec.upto fnExactReadThingSpec)

/-- 'laws.FnExactWriteThing', WHERE WHAT IT READS IS OF BULK AT MOST 1048576: true; the input reads as it did. -/
def fnExactWriteThingUptoRow : OpenClaim := { program := "ytbmflnlppnkbaaa", sum := "87af16b2b471676bd20aebd65d336fe0161d2081e14d5cf62678f15c47767c13", func := "loop.example/g00499/laws.FnExactWriteThing", spec := "fnExactWriteThing", apart := false, narrowed := true }
def FnExactWriteThingUptoSaid : Prop := fnExactWriteThingUptoRow.holds Try.pinned (OpenSpec.upto fnExactWriteThingSpec)

/-- 'laws.FnExactOwnSteps', WHERE WHAT IT READS IS OF BULK AT MOST 1048576: true; the input reads as it did. -/
def fnExactOwnStepsUptoRow : OpenClaim := { program := "ytbmflnlppnkbaaa", sum := "87af16b2b471676bd20aebd65d336fe0161d2081e14d5cf62678f15c47767c13", func := "loop.example/g00499/laws.FnExactOwnSteps", spec := "fnExactOwnSteps", apart := false, narrowed := true }
def FnExactOwnStepsUptoSaid : Prop := fnExactOwnStepsUptoRow.holds Try.pinned (OpenSpec.upto fnExactOwnStepsSpec)

/-- 'laws.FnExactWasteOk', WHERE WHAT IT READS IS OF BULK AT MOST 1048576: true; the input reads as it did. -/
def fnExactWasteOkUptoRow : OpenClaim := { program := "ytbmflnlppnkbaaa", sum := "87af16b2b471676bd20aebd65d336fe0161d2081e14d5cf62678f15c47767c13", func := "loop.example/g00499/laws.FnExactWasteOk", spec := "fnExactWasteOk", unfollowed := true, recurses := true, apart := false, narrowed := true }
def FnExactWasteOkUptoSaid : Prop := fnExactWasteOkUptoRow.holds Try.pinned (OpenSpec.upto fnExactWasteOkSpec)

/-- 'laws.FnExactThingOf', WHERE WHAT IT READS IS OF BULK AT MOST 1048576: true; the input reads as it did. -/
def fnExactThingOfUptoRow : OpenClaim := { program := "ytbmflnlppnkbaaa", sum := "87af16b2b471676bd20aebd65d336fe0161d2081e14d5cf62678f15c47767c13", func := "loop.example/g00499/laws.FnExactThingOf", spec := "fnExactThingOf", apart := false, narrowed := true }
def FnExactThingOfUptoSaid : Prop := fnExactThingOfUptoRow.holds Try.pinned (OpenSpec.upto fnExactThingOfSpec)

/-- 'laws.FnExactGone', WHERE WHAT IT READS IS OF BULK AT MOST 1048576: true; the input reads as it did. -/
def fnExactGoneUptoRow : OpenClaim := { program := "ytbmflnlppnkbaaa", sum := "87af16b2b471676bd20aebd65d336fe0161d2081e14d5cf62678f15c47767c13", func := "loop.example/g00499/laws.FnExactGone", spec := "fnExactGone", apart := false, narrowed := true }
def FnExactGoneUptoSaid : Prop := fnExactGoneUptoRow.holds Try.pinned (OpenSpec.upto fnExactGoneSpec)

/-- 'laws.FnExactWasteOf', WHERE WHAT IT READS IS OF BULK AT MOST 1048576: true; the input reads as it did. -/
def fnExactWasteOfUptoRow : OpenClaim := { program := "ytbmflnlppnkbaaa", sum := "87af16b2b471676bd20aebd65d336fe0161d2081e14d5cf62678f15c47767c13", func := "loop.example/g00499/laws.FnExactWasteOf", spec := "fnExactWasteOf", apart := false, narrowed := true }
def FnExactWasteOfUptoSaid : Prop := fnExactWasteOfUptoRow.holds Try.pinned (OpenSpec.upto fnExactWasteOfSpec)

/-- 'laws.FnExactEmptied', WHERE WHAT IT READS IS OF BULK AT MOST 1048576: true; the input reads as it did. -/
def fnExactEmptiedUptoRow : OpenClaim := { program := "ytbmflnlppnkbaaa", sum := "87af16b2b471676bd20aebd65d336fe0161d2081e14d5cf62678f15c47767c13", func := "loop.example/g00499/laws.FnExactEmptied", spec := "fnExactEmptied", apart := false, narrowed := true }
def FnExactEmptiedUptoSaid : Prop := fnExactEmptiedUptoRow.holds Try.pinned (OpenSpec.upto fnExactEmptiedSpec)

end Rows
end Go.Proofs.Ytbmflnlppnkbaaa
