/- Contracts of small functions: where objects are placed in a chunk. -/
import Derived.Test.YtmnfcahbmlfccaaHIK
namespace Go.Proofs.Ytmnfcahbmlfccaa
open Go Go.Proofs.Ytmnfcahbmlfccaa.DL
set_option maxRecDepth 100000

abbrev tIB (n : Int) (b : Bool) : SV := .tup [.cell (iC n), .cell (bC b)]
theorem tIB_eq {n n' : Int} {b b' : Bool} (h : n = n') (h' : b = b') : tIB n b = tIB n' b' := by rw [h, h']
def alignB (a : Int) : Bool := decide (a = 1) || (decide (a = 2) || decide (a = 4))
theorem alignB_iff {a : Int} : alignB a = true ↔ a = 1 ∨ a = 2 ∨ a = 4 := by simp [alignB]
def alignUp (n al : Int) : Int := if within n 0 1000000000 && alignB al then IntKind.i64.wrap (IntKind.i64.wrap ((IntKind.i64.wrap (IntKind.i64.wrap (n + al) - 1)).tdiv al) * al) else 0
def looseIn (c : Conf) (n : Node) : Int := if n.cur = 0 then 0 else if nodeOk c n then IntKind.i64.wrap (c.size - n.bump) else 0
def mayB (c : Conf) (n : Node) (sz al : Int) : Bool := nodeOk c n && (within sz 1 c.size && (alignB al && !decide (n.cur = 0)))
def spotB (c : Conf) (n : Node) (sz al : Int) : Bool := mayB c n sz al && decide (IntKind.i64.wrap (alignUp n.bump al + sz) ≤ c.size)
def spotN (c : Conf) (n : Node) (sz al : Int) : Int := if spotB c n sz al then IntKind.i64.wrap (IntKind.i64.wrap (IntKind.i64.wrap (n.cur - 1) * c.size) + alignUp n.bump al) else 0
def needsB (c : Conf) (n : Node) (sz al : Int) : Bool := nodeOk c n && (decide (n.st = 1) && (within sz 1 c.size && (alignB al && !spotB c n sz al)))
def loC (c : Conf) (t : Thing) : Int := IntKind.i64.wrap (t.pos.tdiv c.size)
def hiC (c : Conf) (t : Thing) : Int := IntKind.i64.wrap ((IntKind.i64.wrap (IntKind.i64.wrap (t.pos + t.len) - 1)).tdiv c.size)
def spanB (l : List Int) (lo hi : Int) : Bool := (List.range (hi + 1 - lo).toNat).all fun j : Nat => has l (lo + (j : Int))
theorem spanB_true {l : List Int} {lo hi : Int} (h : ∀ j : Nat, (j : Int) < hi + 1 - lo → has l (lo + (j : Int)) = true) : spanB l lo hi = true := by
  simp only [spanB, List.all_eq_true, List.mem_range]
  intro j hj
  exact h j (by omega)
theorem spanB_false {l : List Int} {lo hi : Int} {j : Nat} (hj : (j : Int) < hi + 1 - lo) (h : has l (lo + (j : Int)) = false) : spanB l lo hi = false := by
  cases e : spanB l lo hi with
  | false => rfl
  | true =>
    simp only [spanB, List.all_eq_true, List.mem_range] at e
    have := e j (by omega)
    rw [h] at this; cases this
def inB (c : Conf) (l : List Int) (t : Thing) : Bool := thingOk c t && spanB l (loC c t) (hiC c t)
theorem thingOk_size {c : Conf} {t : Thing} (h : thingOk c t = true) : 8 ≤ c.size ∧ 0 ≤ loC c t ∧ loC c t ≤ 192 ∧ 0 ≤ hiC c t ∧ hiC c t ≤ 192 := by
  simp only [thingOk, Bool.and_eq_true, decide_eq_true_eq] at h
  obtain ⟨h1, h2, h3, -⟩ := h
  have hb : bytesOf c ≤ 192 ∧ 8 ≤ c.size := by
    cases g : c.good with
    | true => have := bytesOf_good g; have := Conf.good_iff.1 g; omega
    | false => have := bytesOf_bad g; omega
  have a1 : 0 ≤ t.pos.tdiv c.size := Int.tdiv_nonneg h2 (by omega)
  have a2 : t.pos.tdiv c.size ≤ t.pos := Int.tdiv_le_self _ h2
  have w1 : IntKind.i64.wrap (t.pos + t.len) = t.pos + t.len := wrap_id (by omega) (by omega)
  have w2 : IntKind.i64.wrap (t.pos + t.len - 1) = t.pos + t.len - 1 := wrap_id (by omega) (by omega)
  have b1 : 0 ≤ (t.pos + t.len - 1).tdiv c.size := Int.tdiv_nonneg (by omega) (by omega)
  have b2 : (t.pos + t.len - 1).tdiv c.size ≤ t.pos + t.len - 1 := Int.tdiv_le_self _ (by omega)
  unfold loC hiC
  rw [w1, w2, wrap_id (n := t.pos.tdiv c.size) (by omega) (by omega), wrap_id (n := (t.pos + t.len - 1).tdiv c.size) (by omega) (by omega)]
  omega
def insB (c : Conf) (n : Node) : Bool := n.things.all (inB c n.chunks)
end Go.Proofs.Ytmnfcahbmlfccaa
