/- Contracts of small functions: bytes read and replaced, in a memory and in a thing. -/
import Derived.Test.YtckcehmggdnliaaHE
namespace Go.Proofs.Ytckcehmggdnliaa
open Go Go.Proofs.Ytckcehmggdnliaa.DL

abbrev tB (l : List Int) (b : Bool) : SV := .tup [.cell (.own (.sl 1 (byts l))), .cell (bC b)]
/-- A memory of a length has k bytes from i on. -/
def there (len : Nat) (i k : Int) : Bool := decide (0 ≤ i) && decide (0 ≤ k) && decide (i + k ≤ len)
def getR (l : List Int) (i k : Int) : List Int := if there l.length i k then (l.take (i + k).toNat).drop i.toNat else []
/-- Where bytes of a thing begin, and whether the memory has them. -/
def inThing (n : Nat) (t : Thing) (off k : Int) : Bool := decide (0 ≤ off) && decide (0 ≤ k) && decide (off + k ≤ t.len) && there n (IntKind.i64.wrap (t.pos + off)) k
def startN (t : Thing) (off k : Int) : Int := if 0 ≤ off ∧ 0 ≤ k ∧ off + k ≤ t.len ∧ 0 ≤ IntKind.i64.wrap (t.pos + off) then IntKind.i64.wrap (t.pos + off) else 0
theorem startN_in {n : Nat} {t : Thing} {off k : Int} (h : inThing n t off k = true) : startN t off k = IntKind.i64.wrap (t.pos + off) := by
  simp only [inThing, there, Bool.and_eq_true, decide_eq_true_eq] at h
  unfold startN
  rw [if_pos (by omega)]
/-- What is read, and whether it is there. -/
def readR (l : List Int) (t : Thing) (off k : Int) : List Int := if inThing l.length t off k then getR l (IntKind.i64.wrap (t.pos + off)) k else []
end Go.Proofs.Ytckcehmggdnliaa
