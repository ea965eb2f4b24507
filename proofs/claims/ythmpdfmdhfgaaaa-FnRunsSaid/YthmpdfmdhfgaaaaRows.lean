/-
  No cell of these rows narrows 'for every input' (looked for: loops, veiled, ifaces, maps, wideKeys, modest, calm, conditions, laid).
  DERIVED. THE GIVEN ROWS OF THIS SEAT. 10 by the template 'for every input the law returns true; each argument reads behind the call as it read before'; 0 by the template 'total and deterministic' (their statements: YthmpdfmdhfgaaaaTotals.lean).
  GIVEN WITH THE SEED: the statements are not yours to turn. If you find one false, say at which input.
  Laid BY PROGRAM, IN A SANDBOX (cutbox-rows.mjs): the forced cells as the released guide's own fill.sh prints them over the translation 6dcb56449590b65d… (all of the seat's roots in one cut). By AI agents, Wed Nov 11 2026. No macro, syntax, notation, axiom, sorry.
-/
import Derived.Test.YthmpdfmdhfgaaaaChecked
import GoSem.Claim
import GoSem.ClaimJoined
import GoSem.ClaimMapViews
import Derived.JoinedTies
import Derived.KernelRfl
namespace Go.Proofs.Ythmpdfmdhfgaaaa
/- THE CELL 'sum', in the pinned program and in every row, IS THE sha256 OF THE DUMP (.gsa) THAT YthmpdfmdhfgaaaaProg.lean LOADS. Nothing in Lean hashes anything: it is a label: what it is worth is what the hold of that sum in a sandbox is worth. -/
noncomputable def Try.pinned : Pinned := { name := "ythmpdfmdhfgaaaa", sum := "6dcb56449590b65d2f9c7e418781b9ce52f7967b4eac6d86fc63d9a5e3c1c7f8", checked := Try.checked }
namespace Rows
def none {H : Type} : Left H := { results := [], args := [] }

/-- 'laws.FnRuns': WHATEVER THE INPUT: true; the input reads as it did. -/
def fnRunsSpec : ChangeSpec := { name := "fnRuns", fn := fun _ => fun
  | [d] => { results := [.lit (.bool true)], args := [d] }
  | _ => none }
def fnRunsRow : OpenClaim := { program := "ythmpdfmdhfgaaaa", sum := "6dcb56449590b65d2f9c7e418781b9ce52f7967b4eac6d86fc63d9a5e3c1c7f8", func := "loop.example/g00499/laws.FnRuns", spec := "fnRuns", unfollowed := true, recurses := true, apart := false }
def FnRunsSaid : Prop := fnRunsRow.holds Try.pinned (OpenSpec.ofChange fnRunsSpec)

/-- ITS FALSE NEIGHBOUR: 'it returns false'. Refute it at one input. -/
def fnRunsWrong : ChangeSpec := { name := "fnRuns", fn := fun _ => fun
  | [d] => { results := [.lit (.bool false)], args := [d] }
  | _ => none }
def FnRunsWrongFalsely : Prop := fnRunsRow.holds Try.pinned (OpenSpec.ofChange fnRunsWrong)

/-- 'laws.FnWipes': WHATEVER THE INPUT: true; the input reads as it did. -/
def fnWipesSpec : ChangeSpec := { name := "fnWipes", fn := fun _ => fun
  | [d] => { results := [.lit (.bool true)], args := [d] }
  | _ => none }
def fnWipesRow : OpenClaim := { program := "ythmpdfmdhfgaaaa", sum := "6dcb56449590b65d2f9c7e418781b9ce52f7967b4eac6d86fc63d9a5e3c1c7f8", func := "loop.example/g00499/laws.FnWipes", spec := "fnWipes", unfollowed := true, recurses := true, apart := false }
def FnWipesSaid : Prop := fnWipesRow.holds Try.pinned (OpenSpec.ofChange fnWipesSpec)

/-- ITS FALSE NEIGHBOUR: 'it returns false'. Refute it at one input. -/
def fnWipesWrong : ChangeSpec := { name := "fnWipes", fn := fun _ => fun
  | [d] => { results := [.lit (.bool false)], args := [d] }
  | _ => none }
def FnWipesWrongFalsely : Prop := fnWipesRow.holds Try.pinned (OpenSpec.ofChange fnWipesWrong)

/-- 'laws.FnPools': WHATEVER THE INPUT: true; the input reads as it did. -/
def fnPoolsSpec : ChangeSpec := { name := "fnPools", fn := fun _ => fun
  | [d] => { results := [.lit (.bool true)], args := [d] }
  | _ => none }
def fnPoolsRow : OpenClaim := { program := "ythmpdfmdhfgaaaa", sum := "6dcb56449590b65d2f9c7e418781b9ce52f7967b4eac6d86fc63d9a5e3c1c7f8", func := "loop.example/g00499/laws.FnPools", spec := "fnPools", unfollowed := true, recurses := true, apart := false }
def FnPoolsSaid : Prop := fnPoolsRow.holds Try.pinned (OpenSpec.ofChange fnPoolsSpec)

/-- ITS FALSE NEIGHBOUR: 'it returns false'. Refute it at one input. -/
def fnPoolsWrong : ChangeSpec := { name := "fnPools", fn := fun _ => fun
  | [d] => { results := [.lit (.bool false)], args := [d] }
  | _ => none }
def FnPoolsWrongFalsely : Prop := fnPoolsRow.holds Try.pinned (OpenSpec.ofChange fnPoolsWrong)

/-- 'laws.FnTrees': WHATEVER THE INPUT: true; the input reads as it did. -/
def fnTreesSpec : ChangeSpec := { name := "fnTrees", fn := fun _ => fun
  | [d] => { results := [.lit (.bool true)], args := [d] }
  | _ => none }
def fnTreesRow : OpenClaim := { program := "ythmpdfmdhfgaaaa", sum := "6dcb56449590b65d2f9c7e418781b9ce52f7967b4eac6d86fc63d9a5e3c1c7f8", func := "loop.example/g00499/laws.FnTrees", spec := "fnTrees", apart := false }
def FnTreesSaid : Prop := fnTreesRow.holds Try.pinned (OpenSpec.ofChange fnTreesSpec)

/-- ITS FALSE NEIGHBOUR: 'it returns false'. Refute it at one input. -/
def fnTreesWrong : ChangeSpec := { name := "fnTrees", fn := fun _ => fun
  | [d] => { results := [.lit (.bool false)], args := [d] }
  | _ => none }
def FnTreesWrongFalsely : Prop := fnTreesRow.holds Try.pinned (OpenSpec.ofChange fnTreesWrong)

/-- 'laws.FnAparts': WHATEVER THE INPUT: true; the input reads as it did. -/
def fnApartsSpec : ChangeSpec := { name := "fnAparts", fn := fun _ => fun
  | [d] => { results := [.lit (.bool true)], args := [d] }
  | _ => none }
def fnApartsRow : OpenClaim := { program := "ythmpdfmdhfgaaaa", sum := "6dcb56449590b65d2f9c7e418781b9ce52f7967b4eac6d86fc63d9a5e3c1c7f8", func := "loop.example/g00499/laws.FnAparts", spec := "fnAparts", unfollowed := true, recurses := true, apart := false }
def FnApartsSaid : Prop := fnApartsRow.holds Try.pinned (OpenSpec.ofChange fnApartsSpec)

/-- ITS FALSE NEIGHBOUR: 'it returns false'. Refute it at one input. -/
def fnApartsWrong : ChangeSpec := { name := "fnAparts", fn := fun _ => fun
  | [d] => { results := [.lit (.bool false)], args := [d] }
  | _ => none }
def FnApartsWrongFalsely : Prop := fnApartsRow.holds Try.pinned (OpenSpec.ofChange fnApartsWrong)

/-- 'laws.FnThings': WHATEVER THE INPUT: true; the input reads as it did. -/
def fnThingsSpec : ChangeSpec := { name := "fnThings", fn := fun _ => fun
  | [d] => { results := [.lit (.bool true)], args := [d] }
  | _ => none }
def fnThingsRow : OpenClaim := { program := "ythmpdfmdhfgaaaa", sum := "6dcb56449590b65d2f9c7e418781b9ce52f7967b4eac6d86fc63d9a5e3c1c7f8", func := "loop.example/g00499/laws.FnThings", spec := "fnThings", apart := false }
def FnThingsSaid : Prop := fnThingsRow.holds Try.pinned (OpenSpec.ofChange fnThingsSpec)

/-- ITS FALSE NEIGHBOUR: 'it returns false'. Refute it at one input. -/
def fnThingsWrong : ChangeSpec := { name := "fnThings", fn := fun _ => fun
  | [d] => { results := [.lit (.bool false)], args := [d] }
  | _ => none }
def FnThingsWrongFalsely : Prop := fnThingsRow.holds Try.pinned (OpenSpec.ofChange fnThingsWrong)

/-- 'laws.FnLarges': WHATEVER THE INPUT: true; the input reads as it did. -/
def fnLargesSpec : ChangeSpec := { name := "fnLarges", fn := fun _ => fun
  | [d] => { results := [.lit (.bool true)], args := [d] }
  | _ => none }
def fnLargesRow : OpenClaim := { program := "ythmpdfmdhfgaaaa", sum := "6dcb56449590b65d2f9c7e418781b9ce52f7967b4eac6d86fc63d9a5e3c1c7f8", func := "loop.example/g00499/laws.FnLarges", spec := "fnLarges", unfollowed := true, recurses := true, apart := false }
def FnLargesSaid : Prop := fnLargesRow.holds Try.pinned (OpenSpec.ofChange fnLargesSpec)

/-- ITS FALSE NEIGHBOUR: 'it returns false'. Refute it at one input. -/
def fnLargesWrong : ChangeSpec := { name := "fnLarges", fn := fun _ => fun
  | [d] => { results := [.lit (.bool false)], args := [d] }
  | _ => none }
def FnLargesWrongFalsely : Prop := fnLargesRow.holds Try.pinned (OpenSpec.ofChange fnLargesWrong)

/-- 'laws.FnSpots': WHATEVER THE INPUT: true; the input reads as it did. -/
def fnSpotsSpec : ChangeSpec := { name := "fnSpots", fn := fun _ => fun
  | [d] => { results := [.lit (.bool true)], args := [d] }
  | _ => none }
def fnSpotsRow : OpenClaim := { program := "ythmpdfmdhfgaaaa", sum := "6dcb56449590b65d2f9c7e418781b9ce52f7967b4eac6d86fc63d9a5e3c1c7f8", func := "loop.example/g00499/laws.FnSpots", spec := "fnSpots", unfollowed := true, recurses := true, apart := false }
def FnSpotsSaid : Prop := fnSpotsRow.holds Try.pinned (OpenSpec.ofChange fnSpotsSpec)

/-- ITS FALSE NEIGHBOUR: 'it returns false'. Refute it at one input. -/
def fnSpotsWrong : ChangeSpec := { name := "fnSpots", fn := fun _ => fun
  | [d] => { results := [.lit (.bool false)], args := [d] }
  | _ => none }
def FnSpotsWrongFalsely : Prop := fnSpotsRow.holds Try.pinned (OpenSpec.ofChange fnSpotsWrong)

/-- 'laws.FnFills': WHATEVER THE INPUT: true; the input reads as it did. -/
def fnFillsSpec : ChangeSpec := { name := "fnFills", fn := fun _ => fun
  | [d] => { results := [.lit (.bool true)], args := [d] }
  | _ => none }
def fnFillsRow : OpenClaim := { program := "ythmpdfmdhfgaaaa", sum := "6dcb56449590b65d2f9c7e418781b9ce52f7967b4eac6d86fc63d9a5e3c1c7f8", func := "loop.example/g00499/laws.FnFills", spec := "fnFills", unfollowed := true, recurses := true, apart := false }
def FnFillsSaid : Prop := fnFillsRow.holds Try.pinned (OpenSpec.ofChange fnFillsSpec)

/-- ITS FALSE NEIGHBOUR: 'it returns false'. Refute it at one input. -/
def fnFillsWrong : ChangeSpec := { name := "fnFills", fn := fun _ => fun
  | [d] => { results := [.lit (.bool false)], args := [d] }
  | _ => none }
def FnFillsWrongFalsely : Prop := fnFillsRow.holds Try.pinned (OpenSpec.ofChange fnFillsWrong)

/-- 'laws.FnWastes': WHATEVER THE INPUT: true; the input reads as it did. -/
def fnWastesSpec : ChangeSpec := { name := "fnWastes", fn := fun _ => fun
  | [d] => { results := [.lit (.bool true)], args := [d] }
  | _ => none }
def fnWastesRow : OpenClaim := { program := "ythmpdfmdhfgaaaa", sum := "6dcb56449590b65d2f9c7e418781b9ce52f7967b4eac6d86fc63d9a5e3c1c7f8", func := "loop.example/g00499/laws.FnWastes", spec := "fnWastes", unfollowed := true, recurses := true, apart := false }
def FnWastesSaid : Prop := fnWastesRow.holds Try.pinned (OpenSpec.ofChange fnWastesSpec)

/-- ITS FALSE NEIGHBOUR: 'it returns false'. Refute it at one input. -/
def fnWastesWrong : ChangeSpec := { name := "fnWastes", fn := fun _ => fun
  | [d] => { results := [.lit (.bool false)], args := [d] }
  | _ => none }
def FnWastesWrongFalsely : Prop := fnWastesRow.holds Try.pinned (OpenSpec.ofChange fnWastesWrong)

/- THE SECOND FORM. 'bulk': how many values and letters a reading holds, each counted each time it is reached (what is shared counts as often as it is met; a slice's spare places count too). A statement '..UptoSaid' is the law's where the arguments, and the package variables that the reading takes, are together of bulk at most 1048576: NARROWER than '..Said'. Prove '..Said' where nothing that the law and all that it calls make is longer than what came in: it says more and counts as full. Else prove '..UptoSaid'. A law counts once. -/
mutual
def uptoBulk {H : Type} : DataW H → Nat
  | .lit (.string bytes) => bytes.length + 1
  | .lit _ => 1
  | .nil => 1
  | .ptr d => uptoBulk d + 1
  | .slice elems spare => uptoBulkAll elems + uptoBulkAll spare + 1
  | .agg parts => uptoBulkAll parts + 1
  | .iface _ d => uptoBulk d + 1
  | .map entries => uptoBulkEntries entries + 1
  | .held _ => 1
def uptoBulkAll {H : Type} : List (DataW H) → Nat
  | [] => 0
  | d :: r => uptoBulk d + uptoBulkAll r
def uptoBulkEntries {H : Type} : List (Lit × DataW H) → Nat
  | [] => 0
  | x :: r => uptoBulkEntry x + uptoBulkEntries r
def uptoBulkEntry {H : Type} : Lit × DataW H → Nat
  | (.string bytes, d) => bytes.length + uptoBulk d + 1
  | (_, d) => uptoBulk d + 1
 end
def uptoSmall : (H : Type) → List (DataW H) → Bool := fun _ ds => decide (uptoBulkAll ds ≤ 1048576)
def OpenSpec.upto (s : _root_.Go.ChangeSpec) : _root_.Go.OpenSpec := { _root_.Go.OpenSpec.ofChange s with cond := some uptoSmall }

/-- 'laws.FnRuns', WHERE WHAT IT READS IS OF BULK AT MOST 1048576: true; the input reads as it did. -/
def fnRunsUptoRow : OpenClaim := { program := "ythmpdfmdhfgaaaa", sum := "6dcb56449590b65d2f9c7e418781b9ce52f7967b4eac6d86fc63d9a5e3c1c7f8", func := "loop.example/g00499/laws.FnRuns", spec := "fnRuns", unfollowed := true, recurses := true, apart := false, narrowed := true }
def FnRunsUptoSaid : Prop := fnRunsUptoRow.holds Try.pinned (OpenSpec.upto fnRunsSpec)

/-- 'laws.FnWipes', WHERE WHAT IT READS IS OF BULK AT MOST 1048576: true; the input reads as it did. -/
def fnWipesUptoRow : OpenClaim := { program := "ythmpdfmdhfgaaaa", sum := "6dcb56449590b65d2f9c7e418781b9ce52f7967b4eac6d86fc63d9a5e3c1c7f8", func := "loop.example/g00499/laws.FnWipes", spec := "fnWipes", unfollowed := true, recurses := true, apart := false, narrowed := true }
def FnWipesUptoSaid : Prop := fnWipesUptoRow.holds Try.pinned (OpenSpec.upto fnWipesSpec)

/-- 'laws.FnPools', WHERE WHAT IT READS IS OF BULK AT MOST 1048576: true; the input reads as it did. -/
def fnPoolsUptoRow : OpenClaim := { program := "ythmpdfmdhfgaaaa", sum := "6dcb56449590b65d2f9c7e418781b9ce52f7967b4eac6d86fc63d9a5e3c1c7f8", func := "loop.example/g00499/laws.FnPools", spec := "fnPools", unfollowed := true, recurses := true, apart := false, narrowed := true }
def FnPoolsUptoSaid : Prop := fnPoolsUptoRow.holds Try.pinned (OpenSpec.upto fnPoolsSpec)

/-- 'laws.FnTrees', WHERE WHAT IT READS IS OF BULK AT MOST 1048576: true; the input reads as it did. -/
def fnTreesUptoRow : OpenClaim := { program := "ythmpdfmdhfgaaaa", sum := "6dcb56449590b65d2f9c7e418781b9ce52f7967b4eac6d86fc63d9a5e3c1c7f8", func := "loop.example/g00499/laws.FnTrees", spec := "fnTrees", apart := false, narrowed := true }
def FnTreesUptoSaid : Prop := fnTreesUptoRow.holds Try.pinned (OpenSpec.upto fnTreesSpec)

/-- 'laws.FnAparts', WHERE WHAT IT READS IS OF BULK AT MOST 1048576: true; the input reads as it did. -/
def fnApartsUptoRow : OpenClaim := { program := "ythmpdfmdhfgaaaa", sum := "6dcb56449590b65d2f9c7e418781b9ce52f7967b4eac6d86fc63d9a5e3c1c7f8", func := "loop.example/g00499/laws.FnAparts", spec := "fnAparts", unfollowed := true, recurses := true, apart := false, narrowed := true }
def FnApartsUptoSaid : Prop := fnApartsUptoRow.holds Try.pinned (OpenSpec.upto fnApartsSpec)

/-- 'laws.FnThings', WHERE WHAT IT READS IS OF BULK AT MOST 1048576: true; the input reads as it did. -/
def fnThingsUptoRow : OpenClaim := { program := "ythmpdfmdhfgaaaa", sum := "6dcb56449590b65d2f9c7e418781b9ce52f7967b4eac6d86fc63d9a5e3c1c7f8", func := "loop.example/g00499/laws.FnThings", spec := "fnThings", apart := false, narrowed := true }
def FnThingsUptoSaid : Prop := fnThingsUptoRow.holds Try.pinned (OpenSpec.upto fnThingsSpec)

/-- 'laws.FnLarges', WHERE WHAT IT READS IS OF BULK AT MOST 1048576: true; the input reads as it did. -/
def fnLargesUptoRow : OpenClaim := { program := "ythmpdfmdhfgaaaa", sum := "6dcb56449590b65d2f9c7e418781b9ce52f7967b4eac6d86fc63d9a5e3c1c7f8", func := "loop.example/g00499/laws.FnLarges", spec := "fnLarges", unfollowed := true, recurses := true, apart := false, narrowed := true }
def FnLargesUptoSaid : Prop := fnLargesUptoRow.holds Try.pinned (OpenSpec.upto fnLargesSpec)

/-- 'laws.FnSpots', WHERE WHAT IT READS IS OF BULK AT MOST 1048576: true; the input reads as it did. -/
def fnSpotsUptoRow : OpenClaim := { program := "ythmpdfmdhfgaaaa", sum := "6dcb56449590b65d2f9c7e418781b9ce52f7967b4eac6d86fc63d9a5e3c1c7f8", func := "loop.example/g00499/laws.FnSpots", spec := "fnSpots", unfollowed := true, recurses := true, apart := false, narrowed := true }
def FnSpotsUptoSaid : Prop := fnSpotsUptoRow.holds Try.pinned (OpenSpec.upto fnSpotsSpec)

/-- 'laws.FnFills', WHERE WHAT IT READS IS OF BULK AT MOST 1048576: true; the input reads as it did. -/
def fnFillsUptoRow : OpenClaim := { program := "ythmpdfmdhfgaaaa", sum := "6dcb56449590b65d2f9c7e418781b9ce52f7967b4eac6d86fc63d9a5e3c1c7f8", func := "loop.example/g00499/laws.FnFills", spec := "fnFills", unfollowed := true, recurses := true, apart := false, narrowed := true }
def FnFillsUptoSaid : Prop := fnFillsUptoRow.holds Try.pinned (OpenSpec.upto fnFillsSpec)

/-- 'laws.FnWastes', WHERE WHAT IT READS IS OF BULK AT MOST 1048576: true; the input reads as it did. -/
def fnWastesUptoRow : OpenClaim := { program := "ythmpdfmdhfgaaaa", sum := "6dcb56449590b65d2f9c7e418781b9ce52f7967b4eac6d86fc63d9a5e3c1c7f8", func := "loop.example/g00499/laws.FnWastes", spec := "fnWastes", unfollowed := true, recurses := true, apart := false, narrowed := true }
def FnWastesUptoSaid : Prop := fnWastesUptoRow.holds Try.pinned (OpenSpec.upto fnWastesSpec)

end Rows
end Go.Proofs.Ythmpdfmdhfgaaaa
