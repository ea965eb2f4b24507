/- Contracts of small functions: whether the objects lie in chunks of a region. -/
import Derived.Test.YtghopnjkgelbkaaHL
namespace Go.Proofs.Ytghopnjkgelbkaa
open Go Go.Proofs.Ytghopnjkgelbkaa.DL
set_option maxRecDepth 100000

def loC (c : Conf) (t : Thing) : Int := IntKind.i64.wrap (t.pos.tdiv c.size)
def hiC (c : Conf) (t : Thing) : Int := IntKind.i64.wrap ((IntKind.i64.wrap (IntKind.i64.wrap (t.pos + t.len) - 1)).tdiv c.size)
def spanB (l : List Int) (lo hi : Int) : Bool := (List.range (hi + 1 - lo).toNat).all fun j : Nat => has l (lo + (j : Int))
theorem spanB_true {l : List Int} {lo hi : Int} (h : ∀ j : Nat, (j : Int) < hi + 1 - lo → has l (lo + (j : Int)) = true) : spanB l lo hi = true := by
  simp only [spanB, List.all_eq_true, List.mem_range]
  intro j hj
  exact h j (by omega)
theorem spanB_false {l : List Int} {lo hi : Int} {j : Nat} (hj : (j : Int) < hi + 1 - lo) (h : has l (lo + (j : Int)) = false) : spanB l lo hi = false := by
  cases e : spanB l lo hi with
  | false => rfl
  | true =>
    simp only [spanB, List.all_eq_true, List.mem_range] at e
    have := e j (by omega)
    rw [h] at this; cases this
def inB (c : Conf) (l : List Int) (t : Thing) : Bool := thingOk c t && spanB l (loC c t) (hiC c t)
theorem thingOk_size {c : Conf} {t : Thing} (h : thingOk c t = true) : 8 ≤ c.size ∧ 0 ≤ loC c t ∧ loC c t ≤ 192 ∧ 0 ≤ hiC c t ∧ hiC c t ≤ 192 := by
  simp only [thingOk, Bool.and_eq_true, decide_eq_true_eq] at h
  obtain ⟨h1, h2, h3, -⟩ := h
  have hb : bytesOf c ≤ 192 ∧ 8 ≤ c.size := by
    cases g : c.good with
    | true => have := bytesOf_good g; have := Conf.good_iff.1 g; omega
    | false => have := bytesOf_bad g; omega
  have a1 : 0 ≤ t.pos.tdiv c.size := Int.tdiv_nonneg h2 (by omega)
  have a2 : t.pos.tdiv c.size ≤ t.pos := Int.tdiv_le_self _ h2
  have w1 : IntKind.i64.wrap (t.pos + t.len) = t.pos + t.len := wrap_id (by omega) (by omega)
  have w2 : IntKind.i64.wrap (t.pos + t.len - 1) = t.pos + t.len - 1 := wrap_id (by omega) (by omega)
  have b1 : 0 ≤ (t.pos + t.len - 1).tdiv c.size := Int.tdiv_nonneg (by omega) (by omega)
  have b2 : (t.pos + t.len - 1).tdiv c.size ≤ t.pos + t.len - 1 := Int.tdiv_le_self _ (by omega)
  unfold loC hiC
  rw [w1, w2, wrap_id (n := t.pos.tdiv c.size) (by omega) (by omega), wrap_id (n := (t.pos + t.len - 1).tdiv c.size) (by omega) (by omega)]
  omega
def insB (c : Conf) (n : Node) : Bool := n.things.all (inB c n.chunks)
end Go.Proofs.Ytghopnjkgelbkaa
