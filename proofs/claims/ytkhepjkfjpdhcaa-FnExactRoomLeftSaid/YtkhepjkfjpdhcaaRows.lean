/-
  No cell of these rows narrows 'for every input' (looked for: loops, veiled, ifaces, maps, wideKeys, modest, calm, conditions, laid).
  DERIVED. THE GIVEN ROWS OF THIS SEAT. 11 by the template 'for every input the law returns true; each argument reads behind the call as it read before'; 0 by the template 'total and deterministic' (their statements: YtkhepjkfjpdhcaaTotals.lean).
  GIVEN WITH THE SEED: the statements are not yours to turn. If you find one false, say at which input.
  Laid BY PROGRAM, IN A SANDBOX (cutbox-rows.mjs): the forced cells as the released guide's own fill.sh prints them over the translation e369d4e6a86764e9… (all of the seat's roots in one cut). By AI agents, Wed Nov 11 2026. No macro, syntax, notation, axiom, sorry.
-/
import Derived.Test.YtkhepjkfjpdhcaaChecked
import GoSem.Claim
import GoSem.ClaimJoined
import GoSem.ClaimMapViews
import Derived.JoinedTies
import Derived.KernelRfl
namespace Go.Proofs.Ytkhepjkfjpdhcaa
/- THE CELL 'sum', in the pinned program and in every row, IS THE sha256 OF THE DUMP (.gsa) THAT YtkhepjkfjpdhcaaProg.lean LOADS. Nothing in Lean hashes anything: it is a label: what it is worth is what the hold of that sum in a sandbox is worth. -/
noncomputable def Try.pinned : Pinned := { name := "ytkhepjkfjpdhcaa", sum := "e369d4e6a86764e90aa6c71d25859eb15ae98ac96cb0b2511928c1ef87fc6492", checked := Try.checked }
namespace Rows
def none {H : Type} : Left H := { results := [], args := [] }

/-- 'laws.FnAparts': WHATEVER THE INPUT: true; the input reads as it did. -/
def fnApartsSpec : ChangeSpec := { name := "fnAparts", fn := fun _ => fun
  | [d] => { results := [.lit (.bool true)], args := [d] }
  | _ => none }
def fnApartsRow : OpenClaim := { program := "ytkhepjkfjpdhcaa", sum := "e369d4e6a86764e90aa6c71d25859eb15ae98ac96cb0b2511928c1ef87fc6492", func := "loop.example/g00499/laws.FnAparts", spec := "fnAparts", unfollowed := true, recurses := true, apart := false }
def FnApartsSaid : Prop := fnApartsRow.holds Try.pinned (OpenSpec.ofChange fnApartsSpec)

/-- ITS FALSE NEIGHBOUR: 'it returns false'. Refute it at one input. -/
def fnApartsWrong : ChangeSpec := { name := "fnAparts", fn := fun _ => fun
  | [d] => { results := [.lit (.bool false)], args := [d] }
  | _ => none }
def FnApartsWrongFalsely : Prop := fnApartsRow.holds Try.pinned (OpenSpec.ofChange fnApartsWrong)

/-- 'laws.FnExactIsClear': WHATEVER THE INPUT: true; the input reads as it did. -/
def fnExactIsClearSpec : ChangeSpec := { name := "fnExactIsClear", fn := fun _ => fun
  | [d] => { results := [.lit (.bool true)], args := [d] }
  | _ => none }
def fnExactIsClearRow : OpenClaim := { program := "ytkhepjkfjpdhcaa", sum := "e369d4e6a86764e90aa6c71d25859eb15ae98ac96cb0b2511928c1ef87fc6492", func := "loop.example/g00499/laws.FnExactIsClear", spec := "fnExactIsClear", apart := false }
def FnExactIsClearSaid : Prop := fnExactIsClearRow.holds Try.pinned (OpenSpec.ofChange fnExactIsClearSpec)

/-- ITS FALSE NEIGHBOUR: 'it returns false'. Refute it at one input. -/
def fnExactIsClearWrong : ChangeSpec := { name := "fnExactIsClear", fn := fun _ => fun
  | [d] => { results := [.lit (.bool false)], args := [d] }
  | _ => none }
def FnExactIsClearWrongFalsely : Prop := fnExactIsClearRow.holds Try.pinned (OpenSpec.ofChange fnExactIsClearWrong)

/-- 'laws.FnThings': WHATEVER THE INPUT: true; the input reads as it did. -/
def fnThingsSpec : ChangeSpec := { name := "fnThings", fn := fun _ => fun
  | [d] => { results := [.lit (.bool true)], args := [d] }
  | _ => none }
def fnThingsRow : OpenClaim := { program := "ytkhepjkfjpdhcaa", sum := "e369d4e6a86764e90aa6c71d25859eb15ae98ac96cb0b2511928c1ef87fc6492", func := "loop.example/g00499/laws.FnThings", spec := "fnThings", apart := false }
def FnThingsSaid : Prop := fnThingsRow.holds Try.pinned (OpenSpec.ofChange fnThingsSpec)

/-- ITS FALSE NEIGHBOUR: 'it returns false'. Refute it at one input. -/
def fnThingsWrong : ChangeSpec := { name := "fnThings", fn := fun _ => fun
  | [d] => { results := [.lit (.bool false)], args := [d] }
  | _ => none }
def FnThingsWrongFalsely : Prop := fnThingsRow.holds Try.pinned (OpenSpec.ofChange fnThingsWrong)

/-- 'laws.FnExactWalkOf': WHATEVER THE INPUT: true; the input reads as it did. -/
def fnExactWalkOfSpec : ChangeSpec := { name := "fnExactWalkOf", fn := fun _ => fun
  | [d1, d2] => { results := [.lit (.bool true)], args := [d1, d2] }
  | _ => none }
def fnExactWalkOfRow : OpenClaim := { program := "ytkhepjkfjpdhcaa", sum := "e369d4e6a86764e90aa6c71d25859eb15ae98ac96cb0b2511928c1ef87fc6492", func := "loop.example/g00499/laws.FnExactWalkOf", spec := "fnExactWalkOf", apart := false }
def FnExactWalkOfSaid : Prop := fnExactWalkOfRow.holds Try.pinned (OpenSpec.ofChange fnExactWalkOfSpec)

/-- ITS FALSE NEIGHBOUR: 'it returns false'. Refute it at one input. -/
def fnExactWalkOfWrong : ChangeSpec := { name := "fnExactWalkOf", fn := fun _ => fun
  | [d1, d2] => { results := [.lit (.bool false)], args := [d1, d2] }
  | _ => none }
def FnExactWalkOfWrongFalsely : Prop := fnExactWalkOfRow.holds Try.pinned (OpenSpec.ofChange fnExactWalkOfWrong)

/-- 'laws.FnLarges': WHATEVER THE INPUT: true; the input reads as it did. -/
def fnLargesSpec : ChangeSpec := { name := "fnLarges", fn := fun _ => fun
  | [d] => { results := [.lit (.bool true)], args := [d] }
  | _ => none }
def fnLargesRow : OpenClaim := { program := "ytkhepjkfjpdhcaa", sum := "e369d4e6a86764e90aa6c71d25859eb15ae98ac96cb0b2511928c1ef87fc6492", func := "loop.example/g00499/laws.FnLarges", spec := "fnLarges", unfollowed := true, recurses := true, apart := false }
def FnLargesSaid : Prop := fnLargesRow.holds Try.pinned (OpenSpec.ofChange fnLargesSpec)

/-- ITS FALSE NEIGHBOUR: 'it returns false'. Refute it at one input. -/
def fnLargesWrong : ChangeSpec := { name := "fnLarges", fn := fun _ => fun
  | [d] => { results := [.lit (.bool false)], args := [d] }
  | _ => none }
def FnLargesWrongFalsely : Prop := fnLargesRow.holds Try.pinned (OpenSpec.ofChange fnLargesWrong)

/-- 'laws.FnExactNewCur': WHATEVER THE INPUT: true; the input reads as it did. -/
def fnExactNewCurSpec : ChangeSpec := { name := "fnExactNewCur", fn := fun _ => fun
  | [d1, d2, d3] => { results := [.lit (.bool true)], args := [d1, d2, d3] }
  | _ => none }
def fnExactNewCurRow : OpenClaim := { program := "ytkhepjkfjpdhcaa", sum := "e369d4e6a86764e90aa6c71d25859eb15ae98ac96cb0b2511928c1ef87fc6492", func := "loop.example/g00499/laws.FnExactNewCur", spec := "fnExactNewCur", unfollowed := true, recurses := true, apart := false }
def FnExactNewCurSaid : Prop := fnExactNewCurRow.holds Try.pinned (OpenSpec.ofChange fnExactNewCurSpec)

/-- ITS FALSE NEIGHBOUR: 'it returns false'. Refute it at one input. -/
def fnExactNewCurWrong : ChangeSpec := { name := "fnExactNewCur", fn := fun _ => fun
  | [d1, d2, d3] => { results := [.lit (.bool false)], args := [d1, d2, d3] }
  | _ => none }
def FnExactNewCurWrongFalsely : Prop := fnExactNewCurRow.holds Try.pinned (OpenSpec.ofChange fnExactNewCurWrong)

/-- 'laws.FnExactPutLarge': WHATEVER THE INPUT: true; the input reads as it did. -/
def fnExactPutLargeSpec : ChangeSpec := { name := "fnExactPutLarge", fn := fun _ => fun
  | [d1, d2, d3, d4] => { results := [.lit (.bool true)], args := [d1, d2, d3, d4] }
  | _ => none }
def fnExactPutLargeRow : OpenClaim := { program := "ytkhepjkfjpdhcaa", sum := "e369d4e6a86764e90aa6c71d25859eb15ae98ac96cb0b2511928c1ef87fc6492", func := "loop.example/g00499/laws.FnExactPutLarge", spec := "fnExactPutLarge", unfollowed := true, recurses := true, apart := false }
def FnExactPutLargeSaid : Prop := fnExactPutLargeRow.holds Try.pinned (OpenSpec.ofChange fnExactPutLargeSpec)

/-- ITS FALSE NEIGHBOUR: 'it returns false'. Refute it at one input. -/
def fnExactPutLargeWrong : ChangeSpec := { name := "fnExactPutLarge", fn := fun _ => fun
  | [d1, d2, d3, d4] => { results := [.lit (.bool false)], args := [d1, d2, d3, d4] }
  | _ => none }
def FnExactPutLargeWrongFalsely : Prop := fnExactPutLargeRow.holds Try.pinned (OpenSpec.ofChange fnExactPutLargeWrong)

/-- 'laws.FnExactRoomLeft': WHATEVER THE INPUT: true; the input reads as it did. -/
def fnExactRoomLeftSpec : ChangeSpec := { name := "fnExactRoomLeft", fn := fun _ => fun
  | [d] => { results := [.lit (.bool true)], args := [d] }
  | _ => none }
def fnExactRoomLeftRow : OpenClaim := { program := "ytkhepjkfjpdhcaa", sum := "e369d4e6a86764e90aa6c71d25859eb15ae98ac96cb0b2511928c1ef87fc6492", func := "loop.example/g00499/laws.FnExactRoomLeft", spec := "fnExactRoomLeft", apart := false }
def FnExactRoomLeftSaid : Prop := fnExactRoomLeftRow.holds Try.pinned (OpenSpec.ofChange fnExactRoomLeftSpec)

/-- ITS FALSE NEIGHBOUR: 'it returns false'. Refute it at one input. -/
def fnExactRoomLeftWrong : ChangeSpec := { name := "fnExactRoomLeft", fn := fun _ => fun
  | [d] => { results := [.lit (.bool false)], args := [d] }
  | _ => none }
def FnExactRoomLeftWrongFalsely : Prop := fnExactRoomLeftRow.holds Try.pinned (OpenSpec.ofChange fnExactRoomLeftWrong)

/-- 'laws.FnExactWorthOf': WHATEVER THE INPUT: true; the input reads as it did. -/
def fnExactWorthOfSpec : ChangeSpec := { name := "fnExactWorthOf", fn := fun _ => fun
  | [d1, d2] => { results := [.lit (.bool true)], args := [d1, d2] }
  | _ => none }
def fnExactWorthOfRow : OpenClaim := { program := "ytkhepjkfjpdhcaa", sum := "e369d4e6a86764e90aa6c71d25859eb15ae98ac96cb0b2511928c1ef87fc6492", func := "loop.example/g00499/laws.FnExactWorthOf", spec := "fnExactWorthOf", recurses := true, apart := false }
def FnExactWorthOfSaid : Prop := fnExactWorthOfRow.holds Try.pinned (OpenSpec.ofChange fnExactWorthOfSpec)

/-- ITS FALSE NEIGHBOUR: 'it returns false'. Refute it at one input. -/
def fnExactWorthOfWrong : ChangeSpec := { name := "fnExactWorthOf", fn := fun _ => fun
  | [d1, d2] => { results := [.lit (.bool false)], args := [d1, d2] }
  | _ => none }
def FnExactWorthOfWrongFalsely : Prop := fnExactWorthOfRow.holds Try.pinned (OpenSpec.ofChange fnExactWorthOfWrong)

/-- 'laws.FnSpots': WHATEVER THE INPUT: true; the input reads as it did. -/
def fnSpotsSpec : ChangeSpec := { name := "fnSpots", fn := fun _ => fun
  | [d] => { results := [.lit (.bool true)], args := [d] }
  | _ => none }
def fnSpotsRow : OpenClaim := { program := "ytkhepjkfjpdhcaa", sum := "e369d4e6a86764e90aa6c71d25859eb15ae98ac96cb0b2511928c1ef87fc6492", func := "loop.example/g00499/laws.FnSpots", spec := "fnSpots", unfollowed := true, recurses := true, apart := false }
def FnSpotsSaid : Prop := fnSpotsRow.holds Try.pinned (OpenSpec.ofChange fnSpotsSpec)

/-- ITS FALSE NEIGHBOUR: 'it returns false'. Refute it at one input. -/
def fnSpotsWrong : ChangeSpec := { name := "fnSpots", fn := fun _ => fun
  | [d] => { results := [.lit (.bool false)], args := [d] }
  | _ => none }
def FnSpotsWrongFalsely : Prop := fnSpotsRow.holds Try.pinned (OpenSpec.ofChange fnSpotsWrong)

/-- 'laws.FnFills': WHATEVER THE INPUT: true; the input reads as it did. -/
def fnFillsSpec : ChangeSpec := { name := "fnFills", fn := fun _ => fun
  | [d] => { results := [.lit (.bool true)], args := [d] }
  | _ => none }
def fnFillsRow : OpenClaim := { program := "ytkhepjkfjpdhcaa", sum := "e369d4e6a86764e90aa6c71d25859eb15ae98ac96cb0b2511928c1ef87fc6492", func := "loop.example/g00499/laws.FnFills", spec := "fnFills", unfollowed := true, recurses := true, apart := false }
def FnFillsSaid : Prop := fnFillsRow.holds Try.pinned (OpenSpec.ofChange fnFillsSpec)

/-- ITS FALSE NEIGHBOUR: 'it returns false'. Refute it at one input. -/
def fnFillsWrong : ChangeSpec := { name := "fnFills", fn := fun _ => fun
  | [d] => { results := [.lit (.bool false)], args := [d] }
  | _ => none }
def FnFillsWrongFalsely : Prop := fnFillsRow.holds Try.pinned (OpenSpec.ofChange fnFillsWrong)

/- THE SECOND FORM. 'bulk': how many values and letters a reading holds, each counted each time it is reached (what is shared counts as often as it is met; a slice's spare places count too). A statement '..UptoSaid' is the law's where the arguments, and the package variables that the reading takes, are together of bulk at most 1048576: NARROWER than '..Said'. Prove '..Said' where nothing that the law and all that it calls make is longer than what came in: it says more and counts as full. Else prove '..UptoSaid'. A law counts once. -/
mutual
def uptoBulk {H : Type} : DataW H → Nat
  | .lit (.string bytes) => bytes.length + 1
  | .lit _ => 1
  | .nil => 1
  | .ptr d => uptoBulk d + 1
  | .slice elems spare => uptoBulkAll elems + uptoBulkAll spare + 1
  | .agg parts => uptoBulkAll parts + 1
  | .iface _ d => uptoBulk d + 1
  | .map entries => uptoBulkEntries entries + 1
  | .held _ => 1
def uptoBulkAll {H : Type} : List (DataW H) → Nat
  | [] => 0
  | d :: r => uptoBulk d + uptoBulkAll r
def uptoBulkEntries {H : Type} : List (Lit × DataW H) → Nat
  | [] => 0
  | x :: r => uptoBulkEntry x + uptoBulkEntries r
def uptoBulkEntry {H : Type} : Lit × DataW H → Nat
  | (.string bytes, d) => bytes.length + uptoBulk d + 1
  | (_, d) => uptoBulk d + 1
 end
def uptoSmall : (H : Type) → List (DataW H) → Bool := fun _ ds => decide (uptoBulkAll ds ≤ 1048576)
def OpenSpec.upto (s : _root_.Go.ChangeSpec) : _root_.Go.OpenSpec := { _root_.Go.OpenSpec.ofChange s with cond := some uptoSmall }

/-- 'laws.FnAparts', WHERE WHAT IT READS IS OF BULK AT MOST 1048576: true; the input reads as it did. -/
def fnApartsUptoRow : OpenClaim := { program := "ytkhepjkfjpdhcaa", sum := "e369d4e6a86764e90aa6c71d25859eb15ae98ac96cb0b2511928c1ef87fc6492", func := "loop.example/g00499/laws.FnAparts", spec := "fnAparts", unfollowed := true, recurses := true, apart := false, narrowed := true }
def FnApartsUptoSaid : Prop := fnApartsUptoRow.holds Try.pinned (OpenSpec.upto fnApartsSpec)

/-- 'laws.FnExactIsClear', WHERE WHAT IT READS IS OF BULK AT MOST 1048576: true; the input reads as it did. -/
def fnExactIsClearUptoRow : OpenClaim := { program := "ytkhepjkfjpdhcaa", sum := "e369d4e6a86764e90aa6c71d25859eb15ae98ac96cb0b2511928c1ef87fc6492", func := "loop.example/g00499/laws.FnExactIsClear", spec := "fnExactIsClear", apart := false, narrowed := true }
def FnExactIsClearUptoSaid : Prop := fnExactIsClearUptoRow.holds Try.pinned (OpenSpec.upto fnExactIsClearSpec)

/-- 'laws.FnThings', WHERE WHAT IT READS IS OF BULK AT MOST 1048576: true; the input reads as it did. -/
def fnThingsUptoRow : OpenClaim := { program := "ytkhepjkfjpdhcaa", sum := "e369d4e6a86764e90aa6c71d25859eb15ae98ac96cb0b2511928c1ef87fc6492", func := "loop.example/g00499/laws.FnThings", spec := "fnThings", apart := false, narrowed := true }
def FnThingsUptoSaid : Prop := fnThingsUptoRow.holds Try.pinned (OpenSpec.upto fnThingsSpec)

/-- 'laws.FnExactWalkOf', WHERE WHAT IT READS IS OF BULK AT MOST 1048576: true; the input reads as it did. -/
def fnExactWalkOfUptoRow : OpenClaim := { program := "ytkhepjkfjpdhcaa", sum := "e369d4e6a86764e90aa6c71d25859eb15ae98ac96cb0b2511928c1ef87fc6492", func := "loop.example/g00499/laws.FnExactWalkOf", spec := "fnExactWalkOf", apart := false, narrowed := true }
def FnExactWalkOfUptoSaid : Prop := fnExactWalkOfUptoRow.holds Try.pinned (OpenSpec.upto fnExactWalkOfSpec)

/-- 'laws.FnLarges', WHERE WHAT IT READS IS OF BULK AT MOST 1048576: true; the input reads as it did. -/
def fnLargesUptoRow : OpenClaim := { program := "ytkhepjkfjpdhcaa", sum := "e369d4e6a86764e90aa6c71d25859eb15ae98ac96cb0b2511928c1ef87fc6492", func := "loop.example/g00499/laws.FnLarges", spec := "fnLarges", unfollowed := true, recurses := true, apart := false, narrowed := true }
def FnLargesUptoSaid : Prop := fnLargesUptoRow.holds Try.pinned (OpenSpec.upto fnLargesSpec)

/-- 'laws.FnExactNewCur', WHERE WHAT IT READS IS OF BULK AT MOST 1048576: true; the input reads as it did. -/
def fnExactNewCurUptoRow : OpenClaim := { program := "ytkhepjkfjpdhcaa", sum := "e369d4e6a86764e90aa6c71d25859eb15ae98ac96cb0b2511928c1ef87fc6492", func := "loop.example/g00499/laws.FnExactNewCur", spec := "fnExactNewCur", unfollowed := true, recurses := true, apart := false, narrowed := true }
def FnExactNewCurUptoSaid : Prop := fnExactNewCurUptoRow.holds Try.pinned (OpenSpec.upto fnExactNewCurSpec)

/-- 'laws.FnExactPutLarge', WHERE WHAT IT READS IS OF BULK AT MOST 1048576: true; the input reads as it did. -/
def fnExactPutLargeUptoRow : OpenClaim := { program := "ytkhepjkfjpdhcaa", sum := "e369d4e6a86764e90aa6c71d25859eb15ae98ac96cb0b2511928c1ef87fc6492", func := "loop.example/g00499/laws.FnExactPutLarge", spec := "fnExactPutLarge", unfollowed := true, recurses := true, apart := false, narrowed := true }
def FnExactPutLargeUptoSaid : Prop := fnExactPutLargeUptoRow.holds Try.pinned (OpenSpec.upto fnExactPutLargeSpec)

/-- 'laws.FnExactRoomLeft', WHERE WHAT IT READS IS OF BULK AT MOST 1048576: true; the input reads as it did. -/
def fnExactRoomLeftUptoRow : OpenClaim := { program := "ytkhepjkfjpdhcaa", sum := "e369d4e6a86764e90aa6c71d25859eb15ae98ac96cb0b2511928c1ef87fc6492", func := "loop.example/g00499/laws.FnExactRoomLeft", spec := "fnExactRoomLeft", apart := false, narrowed := true }
def FnExactRoomLeftUptoSaid : Prop := fnExactRoomLeftUptoRow.holds Try.pinned (OpenSpec.upto fnExactRoomLeftSpec)

/-- 'laws.FnExactWorthOf', WHERE WHAT IT READS IS OF BULK AT MOST 1048576: true; the input reads as it did. -/
def fnExactWorthOfUptoRow : OpenClaim := { program := "ytkhepjkfjpdhcaa", sum := "e369d4e6a86764e90aa6c71d25859eb15ae98ac96cb0b2511928c1ef87fc6492", func := "loop.example/g00499/laws.FnExactWorthOf", spec := "fnExactWorthOf", recurses := true, apart := false, narrowed := true }
def FnExactWorthOfUptoSaid : Prop := fnExactWorthOfUptoRow.holds Try.pinned (OpenSpec.upto fnExactWorthOfSpec)

/-- 'laws.FnSpots', WHERE WHAT IT READS IS OF BULK AT MOST 1048576: true; the input reads as it did. -/
def fnSpotsUptoRow : OpenClaim := { program := "ytkhepjkfjpdhcaa", sum := "e369d4e6a86764e90aa6c71d25859eb15ae98ac96cb0b2511928c1ef87fc6492", func := "loop.example/g00499/laws.FnSpots", spec := "fnSpots", unfollowed := true, recurses := true, apart := false, narrowed := true }
def FnSpotsUptoSaid : Prop := fnSpotsUptoRow.holds Try.pinned (OpenSpec.upto fnSpotsSpec)

/-- 'laws.FnFills', WHERE WHAT IT READS IS OF BULK AT MOST 1048576: true; the input reads as it did. -/
def fnFillsUptoRow : OpenClaim := { program := "ytkhepjkfjpdhcaa", sum := "e369d4e6a86764e90aa6c71d25859eb15ae98ac96cb0b2511928c1ef87fc6492", func := "loop.example/g00499/laws.FnFills", spec := "fnFills", unfollowed := true, recurses := true, apart := false, narrowed := true }
def FnFillsUptoSaid : Prop := fnFillsUptoRow.holds Try.pinned (OpenSpec.upto fnFillsSpec)

end Rows
end Go.Proofs.Ytkhepjkfjpdhcaa
