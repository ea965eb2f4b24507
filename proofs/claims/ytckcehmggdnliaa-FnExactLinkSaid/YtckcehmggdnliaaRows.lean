/-
  No cell of these rows narrows 'for every input' (looked for: loops, veiled, ifaces, maps, wideKeys, modest, calm, conditions, laid).
  DERIVED. THE GIVEN ROWS OF THIS SEAT. 12 by the template 'for every input the law returns true; each argument reads behind the call as it read before'; 0 by the template 'total and deterministic' (their statements: YtckcehmggdnliaaTotals.lean).
  GIVEN WITH THE SEED: the statements are not yours to turn. If you find one false, say at which input.
  Laid BY PROGRAM, IN A SANDBOX (cutbox-rows.mjs): the forced cells as the released guide's own fill.sh prints them over the translation 1f94d71414be60cc… (all of the seat's roots in one cut). By AI agents, Wed Nov 11 2026. No macro, syntax, notation, axiom, sorry.
-/
import Derived.Test.YtckcehmggdnliaaChecked
import GoSem.Claim
import GoSem.ClaimJoined
import GoSem.ClaimMapViews
import Derived.JoinedTies
import Derived.KernelRfl
namespace Go.Proofs.Ytckcehmggdnliaa
/- THE CELL 'sum', in the pinned program and in every row, IS THE sha256 OF THE DUMP (.gsa) THAT YtckcehmggdnliaaProg.lean LOADS. Nothing in Lean hashes anything: it is a label: what it is worth is what the hold of that sum in a sandbox is worth. -/
noncomputable def Try.pinned : Pinned := { name := "ytckcehmggdnliaa", sum := "1f94d71414be60cc9586dae2e354a8e7a3738b90de1c692d71750c145ddd1288", checked := Try.checked }
namespace Rows
def none {H : Type} : Left H := { results := [], args := [] }

/-- 'laws.FnExactRise': WHATEVER THE INPUT: true; the input reads as it did. -/
def fnExactRiseSpec : ChangeSpec := { name := "fnExactRise", fn := fun _ => fun
  | [d1, d2] => { results := [.lit (.bool true)], args := [d1, d2] }
  | _ => none }
def fnExactRiseRow : OpenClaim := { program := "ytckcehmggdnliaa", sum := "1f94d71414be60cc9586dae2e354a8e7a3738b90de1c692d71750c145ddd1288", func := "loop.example/g00499/laws.FnExactRise", spec := "fnExactRise", apart := false }
def FnExactRiseSaid : Prop := fnExactRiseRow.holds Try.pinned (OpenSpec.ofChange fnExactRiseSpec)

/-- ITS FALSE NEIGHBOUR: 'it returns false'. Refute it at one input. -/
def fnExactRiseWrong : ChangeSpec := { name := "fnExactRise", fn := fun _ => fun
  | [d1, d2] => { results := [.lit (.bool false)], args := [d1, d2] }
  | _ => none }
def FnExactRiseWrongFalsely : Prop := fnExactRiseRow.holds Try.pinned (OpenSpec.ofChange fnExactRiseWrong)

/-- 'laws.FnExactInChunks': WHATEVER THE INPUT: true; the input reads as it did. -/
def fnExactInChunksSpec : ChangeSpec := { name := "fnExactInChunks", fn := fun _ => fun
  | [d1, d2] => { results := [.lit (.bool true)], args := [d1, d2] }
  | _ => none }
def fnExactInChunksRow : OpenClaim := { program := "ytckcehmggdnliaa", sum := "1f94d71414be60cc9586dae2e354a8e7a3738b90de1c692d71750c145ddd1288", func := "loop.example/g00499/laws.FnExactInChunks", spec := "fnExactInChunks", unfollowed := true, recurses := true, apart := false }
def FnExactInChunksSaid : Prop := fnExactInChunksRow.holds Try.pinned (OpenSpec.ofChange fnExactInChunksSpec)

/-- ITS FALSE NEIGHBOUR: 'it returns false'. Refute it at one input. -/
def fnExactInChunksWrong : ChangeSpec := { name := "fnExactInChunks", fn := fun _ => fun
  | [d1, d2] => { results := [.lit (.bool false)], args := [d1, d2] }
  | _ => none }
def FnExactInChunksWrongFalsely : Prop := fnExactInChunksRow.holds Try.pinned (OpenSpec.ofChange fnExactInChunksWrong)

/-- 'laws.FnExactTreeOk': WHATEVER THE INPUT: true; the input reads as it did. -/
def fnExactTreeOkSpec : ChangeSpec := { name := "fnExactTreeOk", fn := fun _ => fun
  | [d] => { results := [.lit (.bool true)], args := [d] }
  | _ => none }
def fnExactTreeOkRow : OpenClaim := { program := "ytckcehmggdnliaa", sum := "1f94d71414be60cc9586dae2e354a8e7a3738b90de1c692d71750c145ddd1288", func := "loop.example/g00499/laws.FnExactTreeOk", spec := "fnExactTreeOk", apart := false }
def FnExactTreeOkSaid : Prop := fnExactTreeOkRow.holds Try.pinned (OpenSpec.ofChange fnExactTreeOkSpec)

/-- ITS FALSE NEIGHBOUR: 'it returns false'. Refute it at one input. -/
def fnExactTreeOkWrong : ChangeSpec := { name := "fnExactTreeOk", fn := fun _ => fun
  | [d] => { results := [.lit (.bool false)], args := [d] }
  | _ => none }
def FnExactTreeOkWrongFalsely : Prop := fnExactTreeOkRow.holds Try.pinned (OpenSpec.ofChange fnExactTreeOkWrong)

/-- 'laws.FnRuns': WHATEVER THE INPUT: true; the input reads as it did. -/
def fnRunsSpec : ChangeSpec := { name := "fnRuns", fn := fun _ => fun
  | [d] => { results := [.lit (.bool true)], args := [d] }
  | _ => none }
def fnRunsRow : OpenClaim := { program := "ytckcehmggdnliaa", sum := "1f94d71414be60cc9586dae2e354a8e7a3738b90de1c692d71750c145ddd1288", func := "loop.example/g00499/laws.FnRuns", spec := "fnRuns", unfollowed := true, recurses := true, apart := false }
def FnRunsSaid : Prop := fnRunsRow.holds Try.pinned (OpenSpec.ofChange fnRunsSpec)

/-- ITS FALSE NEIGHBOUR: 'it returns false'. Refute it at one input. -/
def fnRunsWrong : ChangeSpec := { name := "fnRuns", fn := fun _ => fun
  | [d] => { results := [.lit (.bool false)], args := [d] }
  | _ => none }
def FnRunsWrongFalsely : Prop := fnRunsRow.holds Try.pinned (OpenSpec.ofChange fnRunsWrong)

/-- 'laws.FnWipes': WHATEVER THE INPUT: true; the input reads as it did. -/
def fnWipesSpec : ChangeSpec := { name := "fnWipes", fn := fun _ => fun
  | [d] => { results := [.lit (.bool true)], args := [d] }
  | _ => none }
def fnWipesRow : OpenClaim := { program := "ytckcehmggdnliaa", sum := "1f94d71414be60cc9586dae2e354a8e7a3738b90de1c692d71750c145ddd1288", func := "loop.example/g00499/laws.FnWipes", spec := "fnWipes", unfollowed := true, recurses := true, apart := false }
def FnWipesSaid : Prop := fnWipesRow.holds Try.pinned (OpenSpec.ofChange fnWipesSpec)

/-- ITS FALSE NEIGHBOUR: 'it returns false'. Refute it at one input. -/
def fnWipesWrong : ChangeSpec := { name := "fnWipes", fn := fun _ => fun
  | [d] => { results := [.lit (.bool false)], args := [d] }
  | _ => none }
def FnWipesWrongFalsely : Prop := fnWipesRow.holds Try.pinned (OpenSpec.ofChange fnWipesWrong)

/-- 'laws.FnExactLooseIn': WHATEVER THE INPUT: true; the input reads as it did. -/
def fnExactLooseInSpec : ChangeSpec := { name := "fnExactLooseIn", fn := fun _ => fun
  | [d1, d2] => { results := [.lit (.bool true)], args := [d1, d2] }
  | _ => none }
def fnExactLooseInRow : OpenClaim := { program := "ytckcehmggdnliaa", sum := "1f94d71414be60cc9586dae2e354a8e7a3738b90de1c692d71750c145ddd1288", func := "loop.example/g00499/laws.FnExactLooseIn", spec := "fnExactLooseIn", unfollowed := true, recurses := true, apart := false }
def FnExactLooseInSaid : Prop := fnExactLooseInRow.holds Try.pinned (OpenSpec.ofChange fnExactLooseInSpec)

/-- ITS FALSE NEIGHBOUR: 'it returns false'. Refute it at one input. -/
def fnExactLooseInWrong : ChangeSpec := { name := "fnExactLooseIn", fn := fun _ => fun
  | [d1, d2] => { results := [.lit (.bool false)], args := [d1, d2] }
  | _ => none }
def FnExactLooseInWrongFalsely : Prop := fnExactLooseInRow.holds Try.pinned (OpenSpec.ofChange fnExactLooseInWrong)

/-- 'laws.FnPools': WHATEVER THE INPUT: true; the input reads as it did. -/
def fnPoolsSpec : ChangeSpec := { name := "fnPools", fn := fun _ => fun
  | [d] => { results := [.lit (.bool true)], args := [d] }
  | _ => none }
def fnPoolsRow : OpenClaim := { program := "ytckcehmggdnliaa", sum := "1f94d71414be60cc9586dae2e354a8e7a3738b90de1c692d71750c145ddd1288", func := "loop.example/g00499/laws.FnPools", spec := "fnPools", unfollowed := true, recurses := true, apart := false }
def FnPoolsSaid : Prop := fnPoolsRow.holds Try.pinned (OpenSpec.ofChange fnPoolsSpec)

/-- ITS FALSE NEIGHBOUR: 'it returns false'. Refute it at one input. -/
def fnPoolsWrong : ChangeSpec := { name := "fnPools", fn := fun _ => fun
  | [d] => { results := [.lit (.bool false)], args := [d] }
  | _ => none }
def FnPoolsWrongFalsely : Prop := fnPoolsRow.holds Try.pinned (OpenSpec.ofChange fnPoolsWrong)

/-- 'laws.FnExactSpotIn': WHATEVER THE INPUT: true; the input reads as it did. -/
def fnExactSpotInSpec : ChangeSpec := { name := "fnExactSpotIn", fn := fun _ => fun
  | [d1, d2, d3, d4] => { results := [.lit (.bool true)], args := [d1, d2, d3, d4] }
  | _ => none }
def fnExactSpotInRow : OpenClaim := { program := "ytckcehmggdnliaa", sum := "1f94d71414be60cc9586dae2e354a8e7a3738b90de1c692d71750c145ddd1288", func := "loop.example/g00499/laws.FnExactSpotIn", spec := "fnExactSpotIn", unfollowed := true, recurses := true, apart := false }
def FnExactSpotInSaid : Prop := fnExactSpotInRow.holds Try.pinned (OpenSpec.ofChange fnExactSpotInSpec)

/-- ITS FALSE NEIGHBOUR: 'it returns false'. Refute it at one input. -/
def fnExactSpotInWrong : ChangeSpec := { name := "fnExactSpotIn", fn := fun _ => fun
  | [d1, d2, d3, d4] => { results := [.lit (.bool false)], args := [d1, d2, d3, d4] }
  | _ => none }
def FnExactSpotInWrongFalsely : Prop := fnExactSpotInRow.holds Try.pinned (OpenSpec.ofChange fnExactSpotInWrong)

/-- 'laws.FnTrees': WHATEVER THE INPUT: true; the input reads as it did. -/
def fnTreesSpec : ChangeSpec := { name := "fnTrees", fn := fun _ => fun
  | [d] => { results := [.lit (.bool true)], args := [d] }
  | _ => none }
def fnTreesRow : OpenClaim := { program := "ytckcehmggdnliaa", sum := "1f94d71414be60cc9586dae2e354a8e7a3738b90de1c692d71750c145ddd1288", func := "loop.example/g00499/laws.FnTrees", spec := "fnTrees", apart := false }
def FnTreesSaid : Prop := fnTreesRow.holds Try.pinned (OpenSpec.ofChange fnTreesSpec)

/-- ITS FALSE NEIGHBOUR: 'it returns false'. Refute it at one input. -/
def fnTreesWrong : ChangeSpec := { name := "fnTrees", fn := fun _ => fun
  | [d] => { results := [.lit (.bool false)], args := [d] }
  | _ => none }
def FnTreesWrongFalsely : Prop := fnTreesRow.holds Try.pinned (OpenSpec.ofChange fnTreesWrong)

/-- 'laws.FnExactNeedsChunk': WHATEVER THE INPUT: true; the input reads as it did. -/
def fnExactNeedsChunkSpec : ChangeSpec := { name := "fnExactNeedsChunk", fn := fun _ => fun
  | [d1, d2, d3, d4] => { results := [.lit (.bool true)], args := [d1, d2, d3, d4] }
  | _ => none }
def fnExactNeedsChunkRow : OpenClaim := { program := "ytckcehmggdnliaa", sum := "1f94d71414be60cc9586dae2e354a8e7a3738b90de1c692d71750c145ddd1288", func := "loop.example/g00499/laws.FnExactNeedsChunk", spec := "fnExactNeedsChunk", unfollowed := true, recurses := true, apart := false }
def FnExactNeedsChunkSaid : Prop := fnExactNeedsChunkRow.holds Try.pinned (OpenSpec.ofChange fnExactNeedsChunkSpec)

/-- ITS FALSE NEIGHBOUR: 'it returns false'. Refute it at one input. -/
def fnExactNeedsChunkWrong : ChangeSpec := { name := "fnExactNeedsChunk", fn := fun _ => fun
  | [d1, d2, d3, d4] => { results := [.lit (.bool false)], args := [d1, d2, d3, d4] }
  | _ => none }
def FnExactNeedsChunkWrongFalsely : Prop := fnExactNeedsChunkRow.holds Try.pinned (OpenSpec.ofChange fnExactNeedsChunkWrong)

/-- 'laws.FnExactLink': WHATEVER THE INPUT: true; the input reads as it did. -/
def fnExactLinkSpec : ChangeSpec := { name := "fnExactLink", fn := fun _ => fun
  | [d1, d2, d3] => { results := [.lit (.bool true)], args := [d1, d2, d3] }
  | _ => none }
def fnExactLinkRow : OpenClaim := { program := "ytckcehmggdnliaa", sum := "1f94d71414be60cc9586dae2e354a8e7a3738b90de1c692d71750c145ddd1288", func := "loop.example/g00499/laws.FnExactLink", spec := "fnExactLink", apart := false }
def FnExactLinkSaid : Prop := fnExactLinkRow.holds Try.pinned (OpenSpec.ofChange fnExactLinkSpec)

/-- ITS FALSE NEIGHBOUR: 'it returns false'. Refute it at one input. -/
def fnExactLinkWrong : ChangeSpec := { name := "fnExactLink", fn := fun _ => fun
  | [d1, d2, d3] => { results := [.lit (.bool false)], args := [d1, d2, d3] }
  | _ => none }
def FnExactLinkWrongFalsely : Prop := fnExactLinkRow.holds Try.pinned (OpenSpec.ofChange fnExactLinkWrong)

/-- 'laws.FnExactUnlink': WHATEVER THE INPUT: true; the input reads as it did. -/
def fnExactUnlinkSpec : ChangeSpec := { name := "fnExactUnlink", fn := fun _ => fun
  | [d1, d2] => { results := [.lit (.bool true)], args := [d1, d2] }
  | _ => none }
def fnExactUnlinkRow : OpenClaim := { program := "ytckcehmggdnliaa", sum := "1f94d71414be60cc9586dae2e354a8e7a3738b90de1c692d71750c145ddd1288", func := "loop.example/g00499/laws.FnExactUnlink", spec := "fnExactUnlink", apart := false }
def FnExactUnlinkSaid : Prop := fnExactUnlinkRow.holds Try.pinned (OpenSpec.ofChange fnExactUnlinkSpec)

/-- ITS FALSE NEIGHBOUR: 'it returns false'. Refute it at one input. -/
def fnExactUnlinkWrong : ChangeSpec := { name := "fnExactUnlink", fn := fun _ => fun
  | [d1, d2] => { results := [.lit (.bool false)], args := [d1, d2] }
  | _ => none }
def FnExactUnlinkWrongFalsely : Prop := fnExactUnlinkRow.holds Try.pinned (OpenSpec.ofChange fnExactUnlinkWrong)

/- THE SECOND FORM. 'bulk': how many values and letters a reading holds, each counted each time it is reached (what is shared counts as often as it is met; a slice's spare places count too). A statement '..UptoSaid' is the law's where the arguments, and the package variables that the reading takes, are together of bulk at most 1048576: NARROWER than '..Said'. Prove '..Said' where nothing that the law and all that it calls make is longer than what came in: it says more and counts as full. Else prove '..UptoSaid'. A law counts once. -/
mutual
def uptoBulk {H : Type} : DataW H → Nat
  | .lit (.string bytes) => bytes.length + 1
  | .lit _ => 1
  | .nil => 1
  | .ptr d => uptoBulk d + 1
  | .slice elems spare => uptoBulkAll elems + uptoBulkAll spare + 1
  | .agg parts => uptoBulkAll parts + 1
  | .iface _ d => uptoBulk d + 1
  | .map entries => uptoBulkEntries entries + 1
  | .held _ => 1
def uptoBulkAll {H : Type} : List (DataW H) → Nat
  | [] => 0
  | d :: r => uptoBulk d + uptoBulkAll r
def uptoBulkEntries {H : Type} : List (Lit × DataW H) → Nat
  | [] => 0
  | x :: r => uptoBulkEntry x + uptoBulkEntries r
def uptoBulkEntry {H : Type} : Lit × DataW H → Nat
  | (.string bytes, d) => bytes.length + uptoBulk d + 1
  | (_, d) => uptoBulk d + 1
 end
def uptoSmall : (H : Type) → List (DataW H) → Bool := fun _ ds => decide (uptoBulkAll ds ≤ 1048576)
def OpenSpec.upto (s : _root_.Go.ChangeSpec) : _root_.Go.OpenSpec := { _root_.Go.OpenSpec.ofChange s with cond := some uptoSmall }

/-- 'laws.FnExactRise', WHERE WHAT IT READS IS OF BULK AT MOST 1048576: true; the input reads as it did. -/
def fnExactRiseUptoRow : OpenClaim := { program := "ytckcehmggdnliaa", sum := "1f94d71414be60cc9586dae2e354a8e7a3738b90de1c692d71750c145ddd1288", func := "loop.example/g00499/laws.FnExactRise", spec := "fnExactRise", apart := false, narrowed := true }
def FnExactRiseUptoSaid : Prop := fnExactRiseUptoRow.holds Try.pinned (OpenSpec.upto fnExactRiseSpec)

/-- 'laws.FnExactInChunks', WHERE WHAT IT READS IS OF BULK AT MOST 1048576: true; the input reads as it did. -/
def fnExactInChunksUptoRow : OpenClaim := { program := "ytckcehmggdnliaa", sum := "1f94d71414be60cc9586dae2e354a8e7a3738b90de1c692d71750c145ddd1288", func := "loop.example/g00499/laws.FnExactInChunks", spec := "fnExactInChunks", unfollowed := true, recurses := true, apart := false, narrowed := true }
def FnExactInChunksUptoSaid : Prop := fnExactInChunksUptoRow.holds Try.pinned (OpenSpec.upto fnExactInChunksSpec)

/-- 'laws.FnExactTreeOk', WHERE WHAT IT READS IS OF BULK AT MOST 1048576: true; the input reads as it did. -/
def fnExactTreeOkUptoRow : OpenClaim := { program := "ytckcehmggdnliaa", sum := "1f94d71414be60cc9586dae2e354a8e7a3738b90de1c692d71750c145ddd1288", func := "loop.example/g00499/laws.FnExactTreeOk", spec := "fnExactTreeOk", apart := false, narrowed := true }
def FnExactTreeOkUptoSaid : Prop := fnExactTreeOkUptoRow.holds Try.pinned (OpenSpec.upto fnExactTreeOkSpec)

/-- 'laws.FnRuns', WHERE WHAT IT READS IS OF BULK AT MOST 1048576: true; the input reads as it did. -/
def fnRunsUptoRow : OpenClaim := { program := "ytckcehmggdnliaa", sum := "1f94d71414be60cc9586dae2e354a8e7a3738b90de1c692d71750c145ddd1288", func := "loop.example/g00499/laws.FnRuns", spec := "fnRuns", unfollowed := true, recurses := true, apart := false, narrowed := true }
def FnRunsUptoSaid : Prop := fnRunsUptoRow.holds Try.pinned (OpenSpec.upto fnRunsSpec)

/-- 'laws.FnWipes', WHERE WHAT IT READS IS OF BULK AT MOST 1048576: true; the input reads as it did. -/
def fnWipesUptoRow : OpenClaim := { program := "ytckcehmggdnliaa", sum := "1f94d71414be60cc9586dae2e354a8e7a3738b90de1c692d71750c145ddd1288", func := "loop.example/g00499/laws.FnWipes", spec := "fnWipes", unfollowed := true, recurses := true, apart := false, narrowed := true }
def FnWipesUptoSaid : Prop := fnWipesUptoRow.holds Try.pinned (OpenSpec.upto fnWipesSpec)

/-- 'laws.FnExactLooseIn', WHERE WHAT IT READS IS OF BULK AT MOST 1048576: true; the input reads as it did. -/
def fnExactLooseInUptoRow : OpenClaim := { program := "ytckcehmggdnliaa", sum := "1f94d71414be60cc9586dae2e354a8e7a3738b90de1c692d71750c145ddd1288", func := "loop.example/g00499/laws.FnExactLooseIn", spec := "fnExactLooseIn", unfollowed := true, recurses := true, apart := false, narrowed := true }
def FnExactLooseInUptoSaid : Prop := fnExactLooseInUptoRow.holds Try.pinned (OpenSpec.upto fnExactLooseInSpec)

/-- 'laws.FnPools', WHERE WHAT IT READS IS OF BULK AT MOST 1048576: true; the input reads as it did. -/
def fnPoolsUptoRow : OpenClaim := { program := "ytckcehmggdnliaa", sum := "1f94d71414be60cc9586dae2e354a8e7a3738b90de1c692d71750c145ddd1288", func := "loop.example/g00499/laws.FnPools", spec := "fnPools", unfollowed := true, recurses := true, apart := false, narrowed := true }
def FnPoolsUptoSaid : Prop := fnPoolsUptoRow.holds Try.pinned (OpenSpec.upto fnPoolsSpec)

/-- 'laws.FnExactSpotIn', WHERE WHAT IT READS IS OF BULK AT MOST 1048576: true; the input reads as it did. -/
def fnExactSpotInUptoRow : OpenClaim := { program := "ytckcehmggdnliaa", sum := "1f94d71414be60cc9586dae2e354a8e7a3738b90de1c692d71750c145ddd1288", func := "loop.example/g00499/laws.FnExactSpotIn", spec := "fnExactSpotIn", unfollowed := true, recurses := true, apart := false, narrowed := true }
def FnExactSpotInUptoSaid : Prop := fnExactSpotInUptoRow.holds Try.pinned (OpenSpec.upto fnExactSpotInSpec)

/-- 'laws.FnTrees', WHERE WHAT IT READS IS OF BULK AT MOST 1048576: true; the input reads as it did. -/
def fnTreesUptoRow : OpenClaim := { program := "ytckcehmggdnliaa", sum := "1f94d71414be60cc9586dae2e354a8e7a3738b90de1c692d71750c145ddd1288", func := "loop.example/g00499/laws.FnTrees", spec := "fnTrees", apart := false, narrowed := true }
def FnTreesUptoSaid : Prop := fnTreesUptoRow.holds Try.pinned (OpenSpec.upto fnTreesSpec)

/-- 'laws.FnExactNeedsChunk', WHERE WHAT IT READS IS OF BULK AT MOST 1048576: true; the input reads as it did. -/
def fnExactNeedsChunkUptoRow : OpenClaim := { program := "ytckcehmggdnliaa", sum := "1f94d71414be60cc9586dae2e354a8e7a3738b90de1c692d71750c145ddd1288", func := "loop.example/g00499/laws.FnExactNeedsChunk", spec := "fnExactNeedsChunk", unfollowed := true, recurses := true, apart := false, narrowed := true }
def FnExactNeedsChunkUptoSaid : Prop := fnExactNeedsChunkUptoRow.holds Try.pinned (OpenSpec.upto fnExactNeedsChunkSpec)

/-- 'laws.FnExactLink', WHERE WHAT IT READS IS OF BULK AT MOST 1048576: true; the input reads as it did. -/
def fnExactLinkUptoRow : OpenClaim := { program := "ytckcehmggdnliaa", sum := "1f94d71414be60cc9586dae2e354a8e7a3738b90de1c692d71750c145ddd1288", func := "loop.example/g00499/laws.FnExactLink", spec := "fnExactLink", apart := false, narrowed := true }
def FnExactLinkUptoSaid : Prop := fnExactLinkUptoRow.holds Try.pinned (OpenSpec.upto fnExactLinkSpec)

/-- 'laws.FnExactUnlink', WHERE WHAT IT READS IS OF BULK AT MOST 1048576: true; the input reads as it did. -/
def fnExactUnlinkUptoRow : OpenClaim := { program := "ytckcehmggdnliaa", sum := "1f94d71414be60cc9586dae2e354a8e7a3738b90de1c692d71750c145ddd1288", func := "loop.example/g00499/laws.FnExactUnlink", spec := "fnExactUnlink", apart := false, narrowed := true }
def FnExactUnlinkUptoSaid : Prop := fnExactUnlinkUptoRow.holds Try.pinned (OpenSpec.upto fnExactUnlinkSpec)

end Rows
end Go.Proofs.Ytckcehmggdnliaa
