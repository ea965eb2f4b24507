/- Contracts of small functions: bytes, distinct chunks, sizes, things and nodes that are valid. -/
import Derived.Test.YtlffmhhdgedddaaHAH
import Derived.Test.YtlffmhhdgedddaaVHIK
namespace Go.Proofs.Ytlffmhhdgedddaa
open Go Go.Proofs.Ytlffmhhdgedddaa.DL
set_option maxRecDepth 100000

def bytesB (l : List Int) : Bool := !l.any fun t => !within t 0 255
theorem bytesB_iff {l : List Int} : bytesB l = true ↔ ∀ i (hi : i < l.length), within l[i] 0 255 = true := by
  simp only [bytesB, Bool.not_eq_true', List.any_eq_false]
  constructor
  · intro h i hi
    have := h _ (List.getElem_mem hi)
    simpa using this
  · intro h x hx
    obtain ⟨i, hi, rfl⟩ := List.mem_iff_getElem.1 hx
    simp [h i hi]
theorem bytesB_false {l : List Int} {i : Nat} (hi : i < l.length) (h : within l[i] 0 255 = false) : bytesB l = false := by
  cases e : bytesB l with
  | false => rfl
  | true => have := bytesB_iff.1 e i hi; rw [h] at this; cases this
def distB (c : Conf) (l : List Int) : Bool := (List.range l.length).all fun i => within (l.getD i 0) 0 (IntKind.i64.wrap (c.chunks - 1)) && !has (l.take i) (l.getD i 0)
theorem distB_iff {c : Conf} {l : List Int} : distB c l = true ↔ ∀ i (hi : i < l.length), within l[i] 0 (IntKind.i64.wrap (c.chunks - 1)) = true ∧ has (l.take i) l[i] = false := by
  simp only [distB, List.all_eq_true, List.mem_range, Bool.and_eq_true, Bool.not_eq_true']
  constructor
  · intro h i hi
    have := h i hi
    rwa [getD_eq hi] at this
  · intro h i hi
    rw [getD_eq hi]
    exact h i hi
theorem distB_false {c : Conf} {l : List Int} {i : Nat} (hi : i < l.length) (h : within l[i] 0 (IntKind.i64.wrap (c.chunks - 1)) = false ∨ has (l.take i) l[i] = true) : distB c l = false := by
  cases e : distB c l with
  | false => rfl
  | true =>
    obtain ⟨h1, h2⟩ := distB_iff.1 e i hi
    rcases h with h | h
    · rw [h] at h1; cases h1
    · rw [h] at h2; cases h2
theorem within_iff {a b c : Int} : within a b c = true ↔ b ≤ a ∧ a ≤ c := by simp [within]
theorem within_false {a b c : Int} : within a b c = false ↔ ¬ (b ≤ a ∧ a ≤ c) := by rw [← within_iff]; simp
def ceilDiv (a b : Int) : Int := if within a 0 1000000000 && within b 1 1000000000 then IntKind.i64.wrap ((IntKind.i64.wrap (IntKind.i64.wrap (a + b) - 1)).tdiv b) else 0
def bytesOf (c : Conf) : Int := if c.good then IntKind.i64.wrap (c.chunks * c.size) else 0
theorem Conf.good_iff {c : Conf} : c.good = true ↔ (2 ≤ c.chunks ∧ c.chunks ≤ 12) ∧ (8 ≤ c.size ∧ c.size ≤ 16) ∧ (2 ≤ c.slots ∧ c.slots ≤ 8) ∧ (1 ≤ c.tax ∧ c.tax ≤ 8) ∧ (1 ≤ c.slice ∧ c.slice ≤ 16) ∧ (1 ≤ c.gens ∧ c.gens ≤ 4) := by
  simp only [Conf.good, Bool.and_eq_true, within_iff]
theorem bytesOf_good {c : Conf} (h : c.good = true) : bytesOf c = c.chunks * c.size ∧ 16 ≤ bytesOf c ∧ bytesOf c ≤ 192 := by
  obtain ⟨⟨h1, h2⟩, ⟨h3, h4⟩, -⟩ := Conf.good_iff.1 h
  have l1 : 2 * 8 ≤ c.chunks * c.size := Int.mul_le_mul h1 h3 (by omega) (by omega)
  have l2 : c.chunks * c.size ≤ 12 * 16 := Int.mul_le_mul h2 h4 (by omega) (by omega)
  unfold bytesOf
  rw [if_pos h, wrap_id (by omega) (by omega)]
  omega
theorem bytesOf_bad {c : Conf} (h : c.good = false) : bytesOf c = 0 := by unfold bytesOf; rw [h]; rfl
theorem c_BytesOf (c : Conf) : CallD Try.prog F_impl_BytesOf [confS c] fun r _ => r = iS (bytesOf c) := by
  refine k_impl_BytesOf ?_
  unfold vc_impl_BytesOf bytesOf
  exact ⟨_, c_confOk c, fun h => iS_eq (by rw [h]; rfl), fun h => iS_eq (by rw [h]; rfl)⟩
theorem c_BytesOfS (c : Conf) : CallD Try.prog F_spec_BytesOf [confS c] fun r _ => r = iS (bytesOf c) := by
  refine k_spec_BytesOf ?_
  unfold vc_spec_BytesOf bytesOf
  exact ⟨_, c_confOkS c, fun h => iS_eq (by rw [h]; rfl), fun h => iS_eq (by rw [h]; rfl)⟩
def sameChunk (c : Conf) (t : Thing) : Bool := decide (IntKind.i64.wrap (t.pos.tdiv c.size) = IntKind.i64.wrap ((IntKind.i64.wrap (IntKind.i64.wrap (t.pos + t.len) - 1)).tdiv c.size))
def thingOk (c : Conf) (t : Thing) : Bool := decide (1 ≤ t.len) && (decide (0 ≤ t.pos) && (decide (t.len + t.pos ≤ bytesOf c) && (if t.run = 0 then decide (t.len ≤ c.size) && sameChunk c t
  else decide (c.size < t.len) && (decide (t.run = ceilDiv t.len c.size) && decide (t.pos.tmod c.size = 0)))))
theorem Node.eq_iff (x y : Node) : x = y ↔ x.st = y.st ∧ x.gen = y.gen ∧ x.ep = y.ep ∧ x.up = y.up ∧ x.upEp = y.upEp ∧ x.first = y.first ∧ x.next = y.next ∧ x.prev = y.prev ∧ x.chunks = y.chunks ∧ x.cur = y.cur ∧ x.bump = y.bump ∧ x.things = y.things ∧ x.tags = y.tags := by
  constructor
  · rintro rfl; exact ⟨rfl, rfl, rfl, rfl, rfl, rfl, rfl, rfl, rfl, rfl, rfl, rfl, rfl⟩
  · cases x; cases y; rintro ⟨h1, h2, h3, h4, h5, h6, h7, h8, h9, h10, h11, h12, h13⟩; simp_all
instance : DecidableEq Node := fun x y => decidable_of_iff _ (Node.eq_iff x y).symm
def bareB (n : Node) : Bool := decide (n.ep = 0) && (decide (n.up = 0) && (decide (n.upEp = 0) && (decide (n.first = 0) && (decide (n.next = 0) && (decide (n.prev = 0) && (decide (n.chunks = []) && (decide (n.cur = 0) && (decide (n.bump = 0) && (decide (n.things = []) && decide (n.tags = []))))))))))
def chunksB (c : Conf) (n : Node) : Bool := distB c n.chunks && (if n.cur = 0 then decide (n.bump = 0) else has n.chunks (IntKind.i64.wrap (n.cur - 1)) && within n.bump 0 c.size)
def liveB (c : Conf) (n : Node) : Bool := decide (0 ≤ n.ep) && (decide (0 ≤ n.upEp) && (within n.up 0 c.slots && (within n.first 0 c.slots && (within n.next 0 c.slots && (within n.prev 0 c.slots && (chunksB c n &&
  (decide ((n.things.length : Int) ≤ 12) && (decide ((n.tags.length : Int) ≤ 6) && (n.things.all (thingOk c) && bytesB n.tags)))))))))
def nodeOk (c : Conf) (n : Node) : Bool := c.good && (within n.st 0 3 && (within n.gen 1 c.gens && (if n.st = 1 then liveB c n else bareB n)))
theorem all_false {α : Type} {p : α → Bool} {l : List α} {k : Nat} (hk : k < l.length) (h : p l[k] = false) : l.all p = false := by
  cases e : l.all p with
  | false => rfl
  | true => have := List.all_eq_true.1 e _ (List.getElem_mem hk); rw [h] at this; cases this
theorem all_true {α : Type} {p : α → Bool} {l : List α} (h : ∀ i (hi : i < l.length), p l[i] = true) : l.all p = true := by
  rw [List.all_eq_true]
  intro x hx
  obtain ⟨i, hi, rfl⟩ := List.mem_iff_getElem.1 hx
  exact h i hi
theorem any_not {α : Type} (p : α → Bool) (l : List α) : (l.any fun t => !p t) = !l.all p := by
  induction l with
  | nil => rfl
  | cons a l ih => simp only [List.any_cons, List.all_cons, ih, Bool.not_and]
end Go.Proofs.Ytlffmhhdgedddaa
