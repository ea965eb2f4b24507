/- Contracts of small functions: where objects are placed in a chunk. -/
import Derived.Test.YtkhepjkfjpdhcaaHIK
namespace Go.Proofs.Ytkhepjkfjpdhcaa
open Go Go.Proofs.Ytkhepjkfjpdhcaa.DL
set_option maxRecDepth 100000

abbrev tIB (n : Int) (b : Bool) : SV := .tup [.cell (iC n), .cell (bC b)]
theorem tIB_eq {n n' : Int} {b b' : Bool} (h : n = n') (h' : b = b') : tIB n b = tIB n' b' := by rw [h, h']
def alignB (a : Int) : Bool := decide (a = 1) || (decide (a = 2) || decide (a = 4))
theorem alignB_iff {a : Int} : alignB a = true ↔ a = 1 ∨ a = 2 ∨ a = 4 := by simp [alignB]
def alignUp (n al : Int) : Int := if within n 0 1000000000 && alignB al then IntKind.i64.wrap (IntKind.i64.wrap ((IntKind.i64.wrap (IntKind.i64.wrap (n + al) - 1)).tdiv al) * al) else 0
def looseIn (c : Conf) (n : Node) : Int := if n.cur = 0 then 0 else if nodeOk c n then IntKind.i64.wrap (c.size - n.bump) else 0
def mayB (c : Conf) (n : Node) (sz al : Int) : Bool := nodeOk c n && (within sz 1 c.size && (alignB al && !decide (n.cur = 0)))
def spotB (c : Conf) (n : Node) (sz al : Int) : Bool := mayB c n sz al && decide (IntKind.i64.wrap (alignUp n.bump al + sz) ≤ c.size)
def spotN (c : Conf) (n : Node) (sz al : Int) : Int := if spotB c n sz al then IntKind.i64.wrap (IntKind.i64.wrap (IntKind.i64.wrap (n.cur - 1) * c.size) + alignUp n.bump al) else 0
def needsB (c : Conf) (n : Node) (sz al : Int) : Bool := nodeOk c n && (decide (n.st = 1) && (within sz 1 c.size && (alignB al && !spotB c n sz al)))
end Go.Proofs.Ytkhepjkfjpdhcaa
