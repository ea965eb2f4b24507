/- Contracts of small functions: where objects are placed in a chunk. -/
import Derived.Test.YtghopnjkgelbkaaHIK
import Derived.Test.YtghopnjkgelbkaaVHLM
namespace Go.Proofs.Ytghopnjkgelbkaa
open Go Go.Proofs.Ytghopnjkgelbkaa.DL
set_option maxRecDepth 100000

abbrev tIB (n : Int) (b : Bool) : SV := .tup [.cell (iC n), .cell (bC b)]
theorem tIB_eq {n n' : Int} {b b' : Bool} (h : n = n') (h' : b = b') : tIB n b = tIB n' b' := by rw [h, h']
def alignB (a : Int) : Bool := decide (a = 1) || (decide (a = 2) || decide (a = 4))
theorem alignB_iff {a : Int} : alignB a = true ↔ a = 1 ∨ a = 2 ∨ a = 4 := by simp [alignB]
theorem c_isAlign (a : Int) : CallD Try.prog F_impl_isAlign [iS a] fun r _ => r = bS (alignB a) := by
  refine k_impl_isAlign ?_
  unfold vc_impl_isAlign
  refine ⟨fun h => bS_eq ?_, fun h => ⟨fun h' => bS_eq ?_, fun h' => ⟨fun h'' => bS_eq ?_, fun h'' => bS_eq ?_⟩⟩⟩ <;> simp_all [alignB]
theorem c_l1Align (a : Int) : CallD Try.prog F_spec_l1Align [iS a] fun r _ => r = bS (alignB a) := by
  refine k_spec_l1Align ?_
  unfold vc_spec_l1Align
  refine ⟨fun h => bS_eq ?_, fun h => ⟨fun h' => bS_eq ?_, fun h' => ⟨fun h'' => bS_eq ?_, fun h'' => bS_eq ?_⟩⟩⟩ <;> simp_all [alignB]
def alignUp (n al : Int) : Int := if within n 0 1000000000 && alignB al then IntKind.i64.wrap (IntKind.i64.wrap ((IntKind.i64.wrap (IntKind.i64.wrap (n + al) - 1)).tdiv al) * al) else 0
theorem c_AlignUp (a b : Int) : CallD Try.prog F_impl_AlignUp [iS a, iS b] fun r _ => r = iS (alignUp a b) := by
  refine k_impl_AlignUp ?_
  unfold vc_impl_AlignUp alignUp
  refine ⟨_, c_within _ _ _, fun h1 => ⟨_, c_isAlign _, fun h2 => ⟨?_, iS_eq ?_⟩, fun h2 => iS_eq ?_⟩, fun h1 => iS_eq ?_⟩
  · have := alignB_iff.1 h2; omega
  · rw [h1, h2]; rfl
  · rw [h1, h2]; rfl
  · rw [h1]; rfl
theorem c_AlignUpS (a b : Int) : CallD Try.prog F_spec_AlignUp [iS a, iS b] fun r _ => r = iS (alignUp a b) := by
  refine k_spec_AlignUp ?_
  unfold vc_spec_AlignUp alignUp
  refine ⟨_, c_l1In _ _ _, fun h1 => ⟨_, c_l1Align _, fun h2 => ⟨?_, iS_eq ?_⟩, fun h2 => iS_eq ?_⟩, fun h1 => iS_eq ?_⟩
  · have := alignB_iff.1 h2; omega
  · rw [h1, h2]; rfl
  · rw [h1, h2]; rfl
  · rw [h1]; rfl
def looseIn (c : Conf) (n : Node) : Int := if n.cur = 0 then 0 else if nodeOk c n then IntKind.i64.wrap (c.size - n.bump) else 0
def mayB (c : Conf) (n : Node) (sz al : Int) : Bool := nodeOk c n && (within sz 1 c.size && (alignB al && !decide (n.cur = 0)))
def spotB (c : Conf) (n : Node) (sz al : Int) : Bool := mayB c n sz al && decide (IntKind.i64.wrap (alignUp n.bump al + sz) ≤ c.size)
def spotN (c : Conf) (n : Node) (sz al : Int) : Int := if spotB c n sz al then IntKind.i64.wrap (IntKind.i64.wrap (IntKind.i64.wrap (n.cur - 1) * c.size) + alignUp n.bump al) else 0
theorem c_spot (c : Conf) {n : Node} (hn : n.ok) (hs : n.sz ≤ 1048576) (sz al : Int) : CallD Try.prog F_impl_spot [confS c, rNode n, iS sz, iS al] fun r _ => r = tIB (if mayB c n sz al then alignUp n.bump al else 0) (spotB c n sz al) := by
  refine k_impl_spot ?_
  unfold vc_impl_spot
  have no : mayB c n sz al = false → tIB 0 false = tIB (if mayB c n sz al then alignUp n.bump al else 0) (spotB c n sz al) := fun h => by unfold spotB; rw [h]; rfl
  refine ⟨_, c_NodeOk c hn hs, fun g1 => ⟨_, c_within _ _ _, fun g2 => ⟨_, c_isAlign _, fun g3 => ⟨fun g4 => no ?_, fun g4 => ⟨_, c_AlignUp _ _, fun g5 => tIB_eq ?_ ?_, fun g5 => tIB_eq ?_ ?_⟩⟩, fun g3 => no ?_⟩, fun g2 => no ?_⟩, fun g1 => no ?_⟩
  · simp [mayB, g4]
  · simp [mayB, g1, g2, g3, g4]
  · simp [spotB, mayB, g1, g2, g3, g4, g5]
  · simp [mayB, g1, g2, g3, g4]
  · simp [spotB, g5]
  · simp [mayB, g3]
  · simp [mayB, g2]
  · simp [mayB, g1]
theorem c_SpotIn (c : Conf) {n : Node} (hn : n.ok) (hs : n.sz ≤ 1048576) (sz al : Int) : CallD Try.prog F_impl_SpotIn [confS c, rNode n, iS sz, iS al] fun r _ => r = tIB (spotN c n sz al) (spotB c n sz al) := by
  refine k_impl_SpotIn ?_
  unfold vc_impl_SpotIn spotN
  refine ⟨_, _, c_spot c hn hs sz al, fun g => tIB_eq ?_ g.symm, fun g => tIB_eq ?_ g.symm⟩
  · have : mayB c n sz al = true := by
      unfold spotB at g
      rw [Bool.and_eq_true] at g
      exact g.1
    rw [if_pos g, if_pos this]
  · rw [g]; rfl
theorem c_SpotInS (c : Conf) {n : Node} (hn : n.ok) (hs : n.sz ≤ 1048576) (sz al : Int) : CallD Try.prog F_spec_SpotIn [confS c, rNode n, iS sz, iS al] fun r _ => r = tIB (spotN c n sz al) (spotB c n sz al) := by
  refine k_spec_SpotIn ?_
  unfold vc_spec_SpotIn spotN
  have no : spotB c n sz al = false → tIB 0 false = tIB (if spotB c n sz al then IntKind.i64.wrap (IntKind.i64.wrap (IntKind.i64.wrap (n.cur - 1) * c.size) + alignUp n.bump al) else 0) (spotB c n sz al) := fun h => by rw [h]; rfl
  refine ⟨_, c_NodeOkS c hn hs, fun g1 => ⟨fun g4 => no ?_, fun g4 => ⟨_, c_l1In _ _ _, fun g2 => ⟨_, c_l1Align _, fun g3 => ⟨_, c_AlignUpS _ _, fun g5 => no ?_, fun g5 => tIB_eq ?_ ?_⟩, fun g3 => no ?_⟩, fun g2 => no ?_⟩⟩, fun g1 => no ?_⟩
  · simp [spotB, mayB, g4]
  · simp only [decide_eq_true_eq] at g5
    have : decide (IntKind.i64.wrap (alignUp n.bump al + sz) ≤ c.size) = false := by simp only [decide_eq_false_iff_not]; omega
    simp [spotB, this]
  · simp only [decide_eq_false_iff_not] at g5
    have : decide (IntKind.i64.wrap (alignUp n.bump al + sz) ≤ c.size) = true := by simp only [decide_eq_true_eq]; omega
    simp [spotB, mayB, g1, g2, g3, g4, this]
  · simp only [decide_eq_false_iff_not] at g5
    have : decide (IntKind.i64.wrap (alignUp n.bump al + sz) ≤ c.size) = true := by simp only [decide_eq_true_eq]; omega
    simp [spotB, mayB, g1, g2, g3, g4, this]
  · simp [spotB, mayB, g3]
  · simp [spotB, mayB, g2]
  · simp [spotB, mayB, g1]
def needsB (c : Conf) (n : Node) (sz al : Int) : Bool := nodeOk c n && (decide (n.st = 1) && (within sz 1 c.size && (alignB al && !spotB c n sz al)))
def loC (c : Conf) (t : Thing) : Int := IntKind.i64.wrap (t.pos.tdiv c.size)
def hiC (c : Conf) (t : Thing) : Int := IntKind.i64.wrap ((IntKind.i64.wrap (IntKind.i64.wrap (t.pos + t.len) - 1)).tdiv c.size)
def spanB (l : List Int) (lo hi : Int) : Bool := (List.range (hi + 1 - lo).toNat).all fun j : Nat => has l (lo + (j : Int))
theorem spanB_true {l : List Int} {lo hi : Int} (h : ∀ j : Nat, (j : Int) < hi + 1 - lo → has l (lo + (j : Int)) = true) : spanB l lo hi = true := by
  simp only [spanB, List.all_eq_true, List.mem_range]
  intro j hj
  exact h j (by omega)
theorem spanB_false {l : List Int} {lo hi : Int} {j : Nat} (hj : (j : Int) < hi + 1 - lo) (h : has l (lo + (j : Int)) = false) : spanB l lo hi = false := by
  cases e : spanB l lo hi with
  | false => rfl
  | true =>
    simp only [spanB, List.all_eq_true, List.mem_range] at e
    have := e j (by omega)
    rw [h] at this; cases this
def inB (c : Conf) (l : List Int) (t : Thing) : Bool := thingOk c t && spanB l (loC c t) (hiC c t)
theorem thingOk_size {c : Conf} {t : Thing} (h : thingOk c t = true) : 8 ≤ c.size ∧ 0 ≤ loC c t ∧ loC c t ≤ 192 ∧ 0 ≤ hiC c t ∧ hiC c t ≤ 192 := by
  simp only [thingOk, Bool.and_eq_true, decide_eq_true_eq] at h
  obtain ⟨h1, h2, h3, -⟩ := h
  have hb : bytesOf c ≤ 192 ∧ 8 ≤ c.size := by
    cases g : c.good with
    | true => have := bytesOf_good g; have := Conf.good_iff.1 g; omega
    | false => have := bytesOf_bad g; omega
  have a1 : 0 ≤ t.pos.tdiv c.size := Int.tdiv_nonneg h2 (by omega)
  have a2 : t.pos.tdiv c.size ≤ t.pos := Int.tdiv_le_self _ h2
  have w1 : IntKind.i64.wrap (t.pos + t.len) = t.pos + t.len := wrap_id (by omega) (by omega)
  have w2 : IntKind.i64.wrap (t.pos + t.len - 1) = t.pos + t.len - 1 := wrap_id (by omega) (by omega)
  have b1 : 0 ≤ (t.pos + t.len - 1).tdiv c.size := Int.tdiv_nonneg (by omega) (by omega)
  have b2 : (t.pos + t.len - 1).tdiv c.size ≤ t.pos + t.len - 1 := Int.tdiv_le_self _ (by omega)
  unfold loC hiC
  rw [w1, w2, wrap_id (n := t.pos.tdiv c.size) (by omega) (by omega), wrap_id (n := (t.pos + t.len - 1).tdiv c.size) (by omega) (by omega)]
  omega
def insB (c : Conf) (n : Node) : Bool := n.things.all (inB c n.chunks)
end Go.Proofs.Ytghopnjkgelbkaa
