/- Contracts of small functions: bytes, distinct chunks, sizes, things and nodes that are valid. -/
import Derived.Test.YthmpdfmdhfgaaaaHAH
import Derived.Test.YthmpdfmdhfgaaaaVHIK
namespace Go.Proofs.Ythmpdfmdhfgaaaa
open Go Go.Proofs.Ythmpdfmdhfgaaaa.DL
set_option maxRecDepth 100000

def bytesB (l : List Int) : Bool := !l.any fun t => !within t 0 255
theorem bytesB_iff {l : List Int} : bytesB l = true ↔ ∀ i (hi : i < l.length), within l[i] 0 255 = true := by
  simp only [bytesB, Bool.not_eq_true', List.any_eq_false]
  constructor
  · intro h i hi
    have := h _ (List.getElem_mem hi)
    simpa using this
  · intro h x hx
    obtain ⟨i, hi, rfl⟩ := List.mem_iff_getElem.1 hx
    simp [h i hi]
theorem bytesB_false {l : List Int} {i : Nat} (hi : i < l.length) (h : within l[i] 0 255 = false) : bytesB l = false := by
  cases e : bytesB l with
  | false => rfl
  | true => have := bytesB_iff.1 e i hi; rw [h] at this; cases this
def distB (c : Conf) (l : List Int) : Bool := (List.range l.length).all fun i => within (l.getD i 0) 0 (IntKind.i64.wrap (c.chunks - 1)) && !has (l.take i) (l.getD i 0)
theorem distB_iff {c : Conf} {l : List Int} : distB c l = true ↔ ∀ i (hi : i < l.length), within l[i] 0 (IntKind.i64.wrap (c.chunks - 1)) = true ∧ has (l.take i) l[i] = false := by
  simp only [distB, List.all_eq_true, List.mem_range, Bool.and_eq_true, Bool.not_eq_true']
  constructor
  · intro h i hi
    have := h i hi
    rwa [getD_eq hi] at this
  · intro h i hi
    rw [getD_eq hi]
    exact h i hi
theorem distB_false {c : Conf} {l : List Int} {i : Nat} (hi : i < l.length) (h : within l[i] 0 (IntKind.i64.wrap (c.chunks - 1)) = false ∨ has (l.take i) l[i] = true) : distB c l = false := by
  cases e : distB c l with
  | false => rfl
  | true =>
    obtain ⟨h1, h2⟩ := distB_iff.1 e i hi
    rcases h with h | h
    · rw [h] at h1; cases h1
    · rw [h] at h2; cases h2
theorem c_areBytes {l : List Int} (hl : l.length ≤ M63) : CallD Try.prog F_impl_areBytes [rI l] fun r _ => r = bS (bytesB l) := by
  refine k_impl_areBytes ?_
  unfold vc_impl_areBytes
  refine ⟨_, c_ContainsFI (p := fun t => !within t 0 255) hl (fun t _ => ?_), fun h => bS_eq ?_, fun h => bS_eq ?_⟩
  · refine k_impl_areBytes_1 ?_
    unfold vc_impl_areBytes_1
    refine ⟨_, c_within _ _ _, fun h => bS_eq ?_, fun h => bS_eq ?_⟩ <;> rw [h]
  · rw [bytesB, h]
  · rw [bytesB, h]
theorem c_distinct (c : Conf) {l : List Int} (hl : l.length ≤ M63) : CallD Try.prog F_impl_distinct [confS c, rI l] fun r _ => r = bS (distB c l) := by
  refine k_impl_distinct ?_
  unfold vc_impl_distinct
  have hl' := hl
  unfold M63 at hl
  simp only [nI, n_ints]
  refine ⟨fun i m => ∃ k : Nat, i = k ∧ k ≤ l.length ∧ m = l.length - k ∧ ∀ i (hi : i < l.length), i < k → within l[i] 0 (IntKind.i64.wrap (c.chunks - 1)) = true ∧ has (l.take i) l[i] = false, ⟨l.length, 0, rfl, Nat.zero_le _, rfl, fun j hj h => by omega⟩, ?_⟩
  rintro i m ⟨k, rfl, hk, rfl, ht⟩
  simp only [Int.toNat_natCast, decide_eq_true_eq, decide_eq_false_iff_not, Nat.mul_one, take_ints, Int.toNat_zero, List.drop_zero]
  refine ⟨fun h1 => ?_, fun h1 => bS_eq ?_⟩
  · have ha : k < l.length := by omega
    have hlk : (l.take k).length ≤ M63 := by unfold M63; simp; omega
    simp only [hd_ints ha, getD_eq ha, isI_iV, asI_iV, wrap_id (n := (k : Int) + 1) (by omega) (by omega)]
    refine ⟨by omega, by omega, by simp [ints]; omega, trivial, _, c_within _ _ _, fun h2 => ⟨by omega, by omega, by omega, _, c_Contains hlk _, fun h3 => bS_eq ?_, fun h3 => ⟨⟨trivial, trivial, trivial, trivial⟩, l.length - (k + 1), by omega, k + 1, by omega, by omega, rfl, fun j hj hjk => ?_⟩⟩, fun h2 => bS_eq ?_⟩
    · exact (distB_false ha (.inr h3)).symm
    · by_cases e : j = k
      · subst e; exact ⟨h2, h3⟩
      · exact ht j hj (by omega)
    · exact (distB_false ha (.inl h2)).symm
  · symm
    exact distB_iff.2 fun i hi => ht i hi (by omega)


theorem within_iff {a b c : Int} : within a b c = true ↔ b ≤ a ∧ a ≤ c := by simp [within]
theorem within_false {a b c : Int} : within a b c = false ↔ ¬ (b ≤ a ∧ a ≤ c) := by rw [← within_iff]; simp
def ceilDiv (a b : Int) : Int := if within a 0 1000000000 && within b 1 1000000000 then IntKind.i64.wrap ((IntKind.i64.wrap (IntKind.i64.wrap (a + b) - 1)).tdiv b) else 0
theorem c_CeilDiv (a b : Int) : CallD Try.prog F_impl_CeilDiv [iS a, iS b] fun r _ => r = iS (ceilDiv a b) := by
  refine k_impl_CeilDiv ?_
  unfold vc_impl_CeilDiv ceilDiv
  refine ⟨_, c_within _ _ _, fun h1 => ⟨_, c_within _ _ _, fun h2 => ⟨?_, iS_eq ?_⟩, fun h2 => iS_eq ?_⟩, fun h1 => iS_eq ?_⟩
  · have := within_iff.1 h2; omega
  · rw [h1, h2]; rfl
  · rw [h1, h2]; rfl
  · rw [h1]; rfl
theorem c_CeilDivS (a b : Int) : CallD Try.prog F_spec_CeilDiv [iS a, iS b] fun r _ => r = iS (ceilDiv a b) := by
  refine k_spec_CeilDiv ?_
  unfold vc_spec_CeilDiv ceilDiv
  refine ⟨_, c_l1In _ _ _, fun h1 => ⟨_, c_l1In _ _ _, fun h2 => ⟨?_, iS_eq ?_⟩, fun h2 => iS_eq ?_⟩, fun h1 => iS_eq ?_⟩
  · have := within_iff.1 h2; omega
  · rw [h1, h2]; rfl
  · rw [h1, h2]; rfl
  · rw [h1]; rfl
def bytesOf (c : Conf) : Int := if c.good then IntKind.i64.wrap (c.chunks * c.size) else 0
theorem Conf.good_iff {c : Conf} : c.good = true ↔ (2 ≤ c.chunks ∧ c.chunks ≤ 12) ∧ (8 ≤ c.size ∧ c.size ≤ 16) ∧ (2 ≤ c.slots ∧ c.slots ≤ 8) ∧ (1 ≤ c.tax ∧ c.tax ≤ 8) ∧ (1 ≤ c.slice ∧ c.slice ≤ 16) ∧ (1 ≤ c.gens ∧ c.gens ≤ 4) := by
  simp only [Conf.good, Bool.and_eq_true, within_iff]
theorem bytesOf_good {c : Conf} (h : c.good = true) : bytesOf c = c.chunks * c.size ∧ 16 ≤ bytesOf c ∧ bytesOf c ≤ 192 := by
  obtain ⟨⟨h1, h2⟩, ⟨h3, h4⟩, -⟩ := Conf.good_iff.1 h
  have l1 : 2 * 8 ≤ c.chunks * c.size := Int.mul_le_mul h1 h3 (by omega) (by omega)
  have l2 : c.chunks * c.size ≤ 12 * 16 := Int.mul_le_mul h2 h4 (by omega) (by omega)
  unfold bytesOf
  rw [if_pos h, wrap_id (by omega) (by omega)]
  omega
theorem bytesOf_bad {c : Conf} (h : c.good = false) : bytesOf c = 0 := by unfold bytesOf; rw [h]; rfl
theorem c_BytesOf (c : Conf) : CallD Try.prog F_impl_BytesOf [confS c] fun r _ => r = iS (bytesOf c) := by
  refine k_impl_BytesOf ?_
  unfold vc_impl_BytesOf bytesOf
  exact ⟨_, c_confOk c, fun h => iS_eq (by rw [h]; rfl), fun h => iS_eq (by rw [h]; rfl)⟩
theorem c_BytesOfS (c : Conf) : CallD Try.prog F_spec_BytesOf [confS c] fun r _ => r = iS (bytesOf c) := by
  refine k_spec_BytesOf ?_
  unfold vc_spec_BytesOf bytesOf
  exact ⟨_, c_confOkS c, fun h => iS_eq (by rw [h]; rfl), fun h => iS_eq (by rw [h]; rfl)⟩
theorem c_ChunksFor (c : Conf) (b : Int) : CallD Try.prog F_impl_ChunksFor [confS c, iS b] fun r _ => r = iS (ceilDiv b c.size) := k_impl_ChunksFor ⟨_, c_CeilDiv _ _, rfl⟩
theorem c_ChunksForS (c : Conf) (b : Int) : CallD Try.prog F_spec_ChunksFor [confS c, iS b] fun r _ => r = iS (ceilDiv b c.size) := k_spec_ChunksFor ⟨_, c_CeilDivS _ _, rfl⟩
theorem c_IsLarge (c : Conf) (b : Int) : CallD Try.prog F_impl_IsLarge [confS c, iS b] fun r _ => r = bS (decide (c.size < b)) := k_impl_IsLarge ⟨fun h => bS_eq h.symm, fun h => bS_eq h.symm⟩
theorem c_IsLargeS (c : Conf) (b : Int) : CallD Try.prog F_spec_IsLarge [confS c, iS b] fun r _ => r = bS (decide (c.size < b)) := k_spec_IsLarge ⟨fun h => bS_eq h.symm, fun h => bS_eq h.symm⟩

def sameChunk (c : Conf) (t : Thing) : Bool := decide (IntKind.i64.wrap (t.pos.tdiv c.size) = IntKind.i64.wrap ((IntKind.i64.wrap (IntKind.i64.wrap (t.pos + t.len) - 1)).tdiv c.size))
def thingOk (c : Conf) (t : Thing) : Bool := decide (1 ≤ t.len) && (decide (0 ≤ t.pos) && (decide (t.len + t.pos ≤ bytesOf c) && (if t.run = 0 then decide (t.len ≤ c.size) && sameChunk c t
  else decide (c.size < t.len) && (decide (t.run = ceilDiv t.len c.size) && decide (t.pos.tmod c.size = 0)))))
theorem c_ThingOk (c : Conf) {t : Thing} (ht : t.ok) : CallD Try.prog F_impl_ThingOk [confS c, thingS t] fun r _ => r = bS (thingOk c t) := by
  obtain ⟨k1, k2, -⟩ := ht
  unfold I64 at k1 k2
  refine k_impl_ThingOk ?_
  unfold vc_impl_ThingOk
  refine ⟨_, c_BytesOf c, ?_⟩
  have hb : 0 ≤ bytesOf c ∧ bytesOf c ≤ 192 ∧ (0 < bytesOf c → 8 ≤ c.size) := by
    cases h : c.good with
    | true => have := bytesOf_good h; have := Conf.good_iff.1 h; refine ⟨?_, ?_, fun _ => ?_⟩ <;> omega
    | false => have := bytesOf_bad h; refine ⟨?_, ?_, fun _ => ?_⟩ <;> omega
  obtain ⟨hb1, hb2, hb3⟩ := hb
  have no : ¬ (1 ≤ t.len ∧ 0 ≤ t.pos ∧ t.len + t.pos ≤ bytesOf c) → bS false = bS (thingOk c t) := fun h => bS_eq (by
    rw [eq_comm]; unfold thingOk
    simp only [Bool.and_eq_false_iff, decide_eq_false_iff_not]; omega)
  have yes : (1 ≤ t.len ∧ 0 ≤ t.pos ∧ t.len + t.pos ≤ bytesOf c) → thingOk c t = if t.run = 0 then decide (t.len ≤ c.size) && sameChunk c t
      else decide (c.size < t.len) && (decide (t.run = ceilDiv t.len c.size) && decide (t.pos.tmod c.size = 0)) := fun h => by
    unfold thingOk; simp [h.1, h.2.1, h.2.2]
  generalize bytesOf c = n at *
  simp only [decide_eq_true_eq, decide_eq_false_iff_not]
  refine ⟨fun g => no (by omega), fun g1 => ⟨fun g => no (by omega), fun g2 => ⟨fun g => no (by omega), fun g3 => ?_⟩⟩⟩
  rw [wrap_id (n := n - t.len) (by omega) (by omega)]
  refine ⟨fun g => no (by omega), fun g4 => ?_⟩
  rw [yes (by omega)]
  refine ⟨fun g5 => ?_, fun g5 => ?_⟩
  · rw [if_pos g5]
    refine ⟨fun g6 => ⟨by omega, by omega, fun g7 => bS_eq ?_, fun g7 => bS_eq ?_⟩, fun g6 => bS_eq ?_⟩
    · simp [g6, sameChunk, g7]
    · simp [sameChunk, g7]
    · simp [g6]
  · rw [if_neg g5]
    refine ⟨_, c_IsLarge c _, fun g6 => ⟨_, c_ChunksFor c _, fun g7 => ⟨by omega, fun g8 => bS_eq ?_, fun g8 => bS_eq ?_⟩, fun g7 => bS_eq ?_⟩, fun g6 => bS_eq ?_⟩
    · simp [g6, g7.symm, g8]
    · simp [g8]
    · simp [g7]
    · rw [g6]; rfl
theorem c_ThingOkS (c : Conf) {t : Thing} (ht : t.ok) : CallD Try.prog F_spec_ThingOk [confS c, thingS t] fun r _ => r = bS (thingOk c t) := by
  obtain ⟨k1, k2, -⟩ := ht
  unfold I64 at k1 k2
  refine k_spec_ThingOk ?_
  unfold vc_spec_ThingOk
  refine ⟨_, c_BytesOfS c, ?_⟩
  have hb : 0 ≤ bytesOf c ∧ bytesOf c ≤ 192 ∧ (0 < bytesOf c → 8 ≤ c.size) := by
    cases h : c.good with
    | true => have := bytesOf_good h; have := Conf.good_iff.1 h; refine ⟨?_, ?_, fun _ => ?_⟩ <;> omega
    | false => have := bytesOf_bad h; refine ⟨?_, ?_, fun _ => ?_⟩ <;> omega
  obtain ⟨hb1, hb2, hb3⟩ := hb
  have no : ¬ (1 ≤ t.len ∧ 0 ≤ t.pos ∧ t.len + t.pos ≤ bytesOf c) → bS false = bS (thingOk c t) := fun h => bS_eq (by
    rw [eq_comm]; unfold thingOk
    simp only [Bool.and_eq_false_iff, decide_eq_false_iff_not]; omega)
  have yes : (1 ≤ t.len ∧ 0 ≤ t.pos ∧ t.len + t.pos ≤ bytesOf c) → thingOk c t = if t.run = 0 then decide (t.len ≤ c.size) && sameChunk c t
      else decide (c.size < t.len) && (decide (t.run = ceilDiv t.len c.size) && decide (t.pos.tmod c.size = 0)) := fun h => by
    unfold thingOk; simp [h.1, h.2.1, h.2.2]
  generalize bytesOf c = n at *
  simp only [decide_eq_true_eq, decide_eq_false_iff_not]
  refine ⟨fun g => no (by omega), fun g0 => ⟨fun g => no (by omega), fun g1 => ⟨fun g => no (by omega), fun g2 => ⟨fun g => no (by omega), fun g3 => ?_⟩⟩⟩⟩
  rw [wrap_id (n := n - t.pos) (by omega) (by omega)]
  refine ⟨fun g => no (by omega), fun g4 => ?_⟩
  rw [yes (by omega)]
  refine ⟨fun g5 => ?_, fun g5 => ?_⟩
  · rw [if_pos g5]
    refine ⟨fun g6 => ⟨by omega, by omega, fun g7 => bS_eq ?_, fun g7 => bS_eq ?_⟩, fun g6 => bS_eq ?_⟩
    · simp [g6, sameChunk, g7]
    · simp [sameChunk, g7]
    · simp [g6]
  · rw [if_neg g5]
    refine ⟨_, c_IsLargeS c _, fun g6 => ⟨_, c_ChunksForS c _, fun g7 => ⟨by omega, fun g8 => bS_eq ?_, fun g8 => bS_eq ?_⟩, fun g7 => bS_eq ?_⟩, fun g6 => bS_eq ?_⟩
    · simp [g6, g7.symm, g8]
    · simp [g8]
    · simp [g7]
    · rw [g6]; rfl

theorem c_EqualI {a b : List Int} (ha : a.length ≤ M63) : CallD Try.prog F_slices_Equal_int [rI a, rI b] fun r _ => r = bS (decide (a = b)) := by
  refine k_slices_Equal_int ?_
  unfold vc_slices_Equal_int
  simp only [nI, n_ints]
  refine ⟨fun h1 => bS_eq ?_, fun h1 => ?_⟩
  · have : a.length ≠ b.length := by simp at h1; omega
    have : a ≠ b := fun e => this (by rw [e])
    simp [this]
  · have hl : a.length = b.length := by simp at h1; omega
    refine ⟨fun i m => ∃ k : Nat, i = k ∧ k ≤ a.length ∧ m = a.length - k ∧ a.take k = b.take k, ⟨a.length, 0, rfl, Nat.zero_le _, rfl, rfl⟩, ?_⟩
    rintro i m ⟨k, rfl, hk, rfl, ht⟩
    simp only [Int.toNat_natCast, decide_eq_true_eq, decide_eq_false_iff_not, Nat.mul_one]
    refine ⟨fun h1 => ?_, fun h1 => bS_eq ?_⟩
    · have ha' : k < a.length := by omega
      have hb' : k < b.length := by omega
      unfold M63 at ha
      simp only [hd_ints ha', hd_ints hb', isI_iV, asI_iV, wrap_id (n := (k : Int) + 1) (by omega) (by omega)]
      refine ⟨by omega, by omega, by simp [ints]; omega, trivial, by omega, by omega, by simp [ints]; omega, trivial, fun h2 => bS_eq ?_, fun h2 => ⟨⟨trivial, trivial, trivial⟩, a.length - (k + 1), by omega, k + 1, by omega, by omega, rfl, all_take_succ ha' hb' ht (by simpa using h2)⟩⟩
      have : a ≠ b := fun e => by subst e; simp at h2
      simp [this]
    · have : k = a.length := by omega
      subst this
      rw [List.take_length, hl, List.take_length] at ht
      simp [ht]
theorem c_EqualT {a b : List Thing} (ha : a.length ≤ M63) : CallD Try.prog F_slices_Equal_impl_Thing [rTh a, rTh b] fun r _ => r = bS (decide (a = b)) := by
  refine k_slices_Equal_impl_Thing ?_
  unfold vc_slices_Equal_impl_Thing
  unfold M63 at ha
  simp only [nI, n_things]
  refine ⟨fun h1 => bS_eq ?_, fun h1 => ?_⟩
  · have : a.length ≠ b.length := by simp at h1; omega
    have : a ≠ b := fun e => this (by rw [e])
    simp [this]
  · have hl : a.length = b.length := by simp at h1; omega
    refine ⟨fun i m => ∃ k : Nat, i = k ∧ k ≤ a.length ∧ m = a.length - k ∧ a.take k = b.take k, ⟨a.length, 0, rfl, Nat.zero_le _, rfl, rfl⟩, ?_⟩
    rintro i m ⟨k, rfl, hk, rfl, ht⟩
    simp only [Int.toNat_natCast, decide_eq_true_eq (p := (k : Int) < a.length), decide_eq_false_iff_not (p := (k : Int) < a.length)]
    refine ⟨fun h1 => ?_, fun h1 => bS_eq ?_⟩
    · have ha' : k < a.length := by omega
      have hb' : k < b.length := by omega
      simp only [drop_things ha', drop_things hb', hdD_cons, List.tail_cons, isI_iV, asI_iV, wrap_id (n := (k : Int) + 1) (by omega) (by omega), Bool.and_true]
      refine ⟨by omega, by omega, by simp, trivial, trivial, trivial, by omega, by omega, by simp, trivial, trivial, trivial, fun h2 => bS_eq ?_, fun h2 => ⟨⟨trivial, trivial, trivial⟩, a.length - (k + 1), by omega, k + 1, by omega, by omega, rfl, take_next ha' hb' ht ?_⟩⟩
      · have : a ≠ b := fun e => by subst e; simp at h2
        simp [this]
      · rw [Thing.eq_iff]; simpa using h2
    · have : k = a.length := by omega
      subst this
      rw [List.take_length, hl, List.take_length] at ht
      simp [ht]

theorem Node.eq_iff (x y : Node) : x = y ↔ x.st = y.st ∧ x.gen = y.gen ∧ x.ep = y.ep ∧ x.up = y.up ∧ x.upEp = y.upEp ∧ x.first = y.first ∧ x.next = y.next ∧ x.prev = y.prev ∧ x.chunks = y.chunks ∧ x.cur = y.cur ∧ x.bump = y.bump ∧ x.things = y.things ∧ x.tags = y.tags := by
  constructor
  · rintro rfl; exact ⟨rfl, rfl, rfl, rfl, rfl, rfl, rfl, rfl, rfl, rfl, rfl, rfl, rfl⟩
  · cases x; cases y; rintro ⟨h1, h2, h3, h4, h5, h6, h7, h8, h9, h10, h11, h12, h13⟩; simp_all
instance : DecidableEq Node := fun x y => decidable_of_iff _ (Node.eq_iff x y).symm
theorem c_SameNode {x y : Node} (h1 : x.chunks.length ≤ M63) (h2 : x.things.length ≤ M63) (h3 : x.tags.length ≤ M63) : CallD Try.prog F_impl_SameNode [rNode x, rNode y] fun r _ => r = bS (decide (x = y)) := by
  have e1 := c_EqualI (b := y.chunks) h1
  have e2 := c_EqualT (b := y.things) h2
  have e3 := c_EqualI (b := y.tags) h3
  refine k_impl_SameNode ?_
  unfold vc_impl_SameNode
  repeat' (first | exact e1 | exact e2 | exact e3 | apply And.intro | intro _ | apply Exists.intro)
  all_goals (clear e1 e2 e3 h1 h2 h3; refine bS_eq ?_; simp_all [Node.eq_iff])
def bareB (n : Node) : Bool := decide (n.ep = 0) && (decide (n.up = 0) && (decide (n.upEp = 0) && (decide (n.first = 0) && (decide (n.next = 0) && (decide (n.prev = 0) && (decide (n.chunks = []) && (decide (n.cur = 0) && (decide (n.bump = 0) && (decide (n.things = []) && decide (n.tags = []))))))))))
theorem c_Bare {n : Node} (h1 : n.chunks.length ≤ M63) (h2 : n.things.length ≤ M63) (h3 : n.tags.length ≤ M63) : CallD Try.prog F_impl_Bare [rNode n] fun r _ => r = bS (bareB n) := by
  refine k_impl_Bare ?_
  unfold vc_impl_Bare
  have e : decide (n = ⟨n.st, n.gen, 0, 0, 0, 0, 0, 0, [], 0, 0, [], []⟩) = bareB n := by
    rw [Bool.eq_iff_iff, decide_eq_true_eq, Node.eq_iff]
    simp [bareB]
  have := c_SameNode (x := n) (y := ⟨n.st, n.gen, 0, 0, 0, 0, 0, 0, [], 0, 0, [], []⟩) h1 h2 h3
  rw [e] at this
  exact ⟨_, this, fun h => bS_eq h.symm, fun h => bS_eq h.symm⟩
theorem c_BareS (n : Node) : CallD Try.prog F_spec_Bare [rNode n] fun r _ => r = bS (bareB n) := by
  refine k_spec_Bare ?_
  unfold vc_spec_Bare
  have e1 : decide (nI (DV.sl 1 (ints n.chunks)).n = 0) = decide (n.chunks = []) := by simp [nI, n_ints]
  have e2 : decide (nI (DV.sl 3 (thgs n.things)).n = 0) = decide (n.things = []) := by simp [nI, n_things]
  have e3 : decide (nI (DV.sl 1 (ints n.tags)).n = 0) = decide (n.tags = []) := by simp [nI, n_ints]
  simp only [e1, e2, e3]
  repeat' (first | apply And.intro | intro _)
  all_goals refine bS_eq ?_; simp_all [bareB]
def chunksB (c : Conf) (n : Node) : Bool := distB c n.chunks && (if n.cur = 0 then decide (n.bump = 0) else has n.chunks (IntKind.i64.wrap (n.cur - 1)) && within n.bump 0 c.size)
theorem c_l7Chunks (c : Conf) {n : Node} (hl : n.chunks.length ≤ 2097152) : CallD Try.prog F_spec_l7Chunks [confS c, rNode n] fun r _ => r = bS (chunksB c n) := by
  have hM : n.chunks.length ≤ M63 := by unfold M63; omega
  refine k_spec_l7Chunks ?_
  unfold vc_spec_l7Chunks chunksB
  generalize n.chunks = l at *
  simp only [nI, n_ints]
  refine ⟨fun i m => ∃ k : Nat, i = k ∧ k ≤ l.length ∧ m = l.length - k ∧ ∀ i (hi : i < l.length), i < k → within l[i] 0 (IntKind.i64.wrap (c.chunks - 1)) = true ∧ has (l.take i) l[i] = false, ⟨l.length, 0, rfl, Nat.zero_le _, rfl, fun j hj h => by omega⟩, ?_⟩
  rintro i m ⟨k, rfl, hk, rfl, ht⟩
  simp only [Int.toNat_natCast, decide_eq_true_eq (p := (k : Int) < l.length), decide_eq_false_iff_not (p := (k : Int) < l.length), Nat.mul_one, take_ints, Int.toNat_zero, List.drop_zero]
  refine ⟨fun h1 => ?_, fun h1 => ?_⟩
  · have ha : k < l.length := by omega
    have hlk : (l.take k).length ≤ M63 := by unfold M63; simp; omega
    simp only [hd_ints ha, getD_eq ha, isI_iV, asI_iV, wrap_id (n := (k : Int) + 1) (by omega) (by omega)]
    refine ⟨by omega, by omega, by simp [ints]; omega, trivial, _, c_l1In _ _ _, fun h2 => ⟨by omega, by omega, by omega, by omega, by omega, by simp [ints]; omega, trivial, _, c_has hlk _, fun h3 => bS_eq ?_, fun h3 => ⟨⟨trivial, trivial⟩, l.length - (k + 1), by omega, k + 1, by omega, by omega, rfl, fun j hj hjk => ?_⟩⟩, fun h2 => bS_eq ?_⟩
    · rw [distB_false ha (.inr h3)]; rfl
    · by_cases e : j = k
      · subst e; exact ⟨h2, h3⟩
      · exact ht j hj (by omega)
    · rw [distB_false ha (.inl h2)]; rfl
  · rw [distB_iff.2 fun i hi => ht i hi (by omega)]
    refine ⟨fun g1 => ⟨fun g2 => bS_eq ?_, fun g2 => bS_eq ?_⟩, fun g1 => ⟨_, c_has hM _, fun g2 => ⟨_, c_l1In _ _ _, fun g3 => bS_eq ?_, fun g3 => bS_eq ?_⟩, fun g2 => bS_eq ?_⟩⟩ <;> simp_all
def liveB (c : Conf) (n : Node) : Bool := decide (0 ≤ n.ep) && (decide (0 ≤ n.upEp) && (within n.up 0 c.slots && (within n.first 0 c.slots && (within n.next 0 c.slots && (within n.prev 0 c.slots && (chunksB c n &&
  (decide ((n.things.length : Int) ≤ 12) && (decide ((n.tags.length : Int) ≤ 6) && (n.things.all (thingOk c) && bytesB n.tags)))))))))
def nodeOk (c : Conf) (n : Node) : Bool := c.good && (within n.st 0 3 && (within n.gen 1 c.gens && (if n.st = 1 then liveB c n else bareB n)))
theorem all_false {α : Type} {p : α → Bool} {l : List α} {k : Nat} (hk : k < l.length) (h : p l[k] = false) : l.all p = false := by
  cases e : l.all p with
  | false => rfl
  | true => have := List.all_eq_true.1 e _ (List.getElem_mem hk); rw [h] at this; cases this
theorem all_true {α : Type} {p : α → Bool} {l : List α} (h : ∀ i (hi : i < l.length), p l[i] = true) : l.all p = true := by
  rw [List.all_eq_true]
  intro x hx
  obtain ⟨i, hi, rfl⟩ := List.mem_iff_getElem.1 hx
  exact h i hi
theorem c_NodeOkSX (c : Conf) {n : Node} (hn : n.ok) (hs : n.sz ≤ 2097152) : CallD Try.prog F_spec_NodeOk [confS c, rNode n] fun r _ => r = bS (nodeOk c n) := by
  unfold Node.sz at hs
  have hthings : ∀ t ∈ n.things, t.ok := hn.2.2.2.2.2.2.2.2.2.2.2.1.2
  refine k_spec_NodeOk ?_
  unfold vc_spec_NodeOk nodeOk
  simp only [nI, n_ints, n_things]
  have neg : ∀ {a b : Int}, decide (a < b) = true → decide (b ≤ a) = false := fun h => by simp only [decide_eq_true_eq, decide_eq_false_iff_not] at *; omega
  have pos : ∀ {a b : Int}, decide (a < b) = false → decide (b ≤ a) = true := fun h => by simp only [decide_eq_true_eq, decide_eq_false_iff_not] at *; omega
  refine ⟨_, c_confOkS c, fun g1 => ⟨_, c_l1In _ _ _, fun g2 => ⟨_, c_l1In _ _ _, fun g3 => ⟨fun g4 => ⟨_, c_BareS n, fun g5 => bS_eq ?_, fun g5 => bS_eq ?_⟩, fun g4 => ?_⟩, fun g3 => bS_eq ?_⟩, fun g2 => bS_eq ?_⟩, fun g1 => bS_eq ?_⟩
  · simp_all
  · simp_all
  · have e4 : n.st = 1 := by simpa using g4
    rw [g1, g2, g3, if_pos e4]
    simp only [Bool.true_and, liveB]
    refine ⟨fun g5 => bS_eq ?_, fun g5 => ⟨fun g6 => bS_eq ?_, fun g6 => ⟨_, c_l1In _ _ _, fun g7 => ⟨_, c_l1In _ _ _, fun g8 => ⟨_, c_l1In _ _ _, fun g9 => ⟨_, c_l1In _ _ _, fun g10 => ⟨_, c_l7Chunks c (by omega), fun g11 => ⟨fun g12 => bS_eq ?_, fun g12 => ⟨fun g13 => bS_eq ?_, fun g13 => ?_⟩⟩,
      fun g11 => bS_eq ?_⟩, fun g10 => bS_eq ?_⟩, fun g9 => bS_eq ?_⟩, fun g8 => bS_eq ?_⟩, fun g7 => bS_eq ?_⟩⟩⟩
    · rw [neg g5]; rfl
    · rw [neg g6]; simp
    · rw [neg g12]; simp
    · rw [neg g13]; simp
    · rw [pos g5, pos g6, g7, g8, g9, g10, g11, pos g12, pos g13]
      simp only [Bool.true_and]
      generalize n.things = l at *
      refine ⟨fun i m => ∃ k : Nat, i = k ∧ k ≤ l.length ∧ m = l.length - k ∧ ∀ i (hi : i < l.length), i < k → thingOk c l[i] = true, ⟨l.length, 0, rfl, Nat.zero_le _, rfl, fun j hj h => by omega⟩, ?_⟩
      rintro i m ⟨k, rfl, hk, rfl, ht⟩
      simp only [Int.toNat_natCast, decide_eq_true_eq (p := (k : Int) < l.length), decide_eq_false_iff_not (p := (k : Int) < l.length)]
      refine ⟨fun h1 => ?_, fun h1 => ?_⟩
      · have ha : k < l.length := by omega
        simp only [drop_things ha, hdD_cons, List.tail_cons, isI_iV, asI_iV, wrap_id (n := (k : Int) + 1) (by omega) (by omega)]
        refine ⟨by omega, by omega, by simp, trivial, trivial, trivial, _, c_ThingOkS c (hthings _ (List.getElem_mem ha)), fun h2 => ⟨⟨trivial, trivial⟩, l.length - (k + 1), by omega, k + 1, by omega, by omega, rfl, fun j hj hjk => ?_⟩, fun h2 => bS_eq ?_⟩
        · by_cases e : j = k
          · subst e; exact h2
          · exact ht j hj (by omega)
        · rw [all_false ha h2]; rfl
      · rw [all_true fun i hi => ht i hi (by omega)]
        clear ht h1 hk
        simp only [Bool.true_and]
        generalize n.tags = l at *
        refine ⟨fun i m => ∃ k : Nat, i = k ∧ k ≤ l.length ∧ m = l.length - k ∧ ∀ i (hi : i < l.length), i < k → within l[i] 0 255 = true, ⟨l.length, 0, rfl, Nat.zero_le _, rfl, fun j hj h => by omega⟩, ?_⟩
        rintro i m ⟨k, rfl, hk, rfl, ht⟩
        simp only [Int.toNat_natCast, Nat.mul_one, decide_eq_true_eq (p := (k : Int) < l.length), decide_eq_false_iff_not (p := (k : Int) < l.length)]
        refine ⟨fun k1 => ?_, fun k1 => bS_eq ?_⟩
        · have ha : k < l.length := by omega
          simp only [hd_ints ha, getD_eq ha, isI_iV, asI_iV, wrap_id (n := (k : Int) + 1) (by omega) (by omega)]
          refine ⟨by omega, by omega, by simp [ints]; omega, trivial, _, c_l1In _ _ _, fun k2 => ⟨trivial, l.length - (k + 1), by omega, k + 1, by omega, by omega, rfl, fun j hj hjk => ?_⟩, fun k2 => bS_eq ?_⟩
          · by_cases e : j = k
            · subst e; exact k2
            · exact ht j hj (by omega)
          · rw [bytesB_false ha k2]
        · rw [bytesB_iff.2 fun i hi => ht i hi (by omega)]
    · rw [g11]; simp
    · rw [g10]; simp
    · rw [g9]; simp
    · rw [g8]; simp
    · rw [g7]; simp
  · rw [g3]; simp
  · rw [g2]; simp
  · rw [g1]; simp
theorem c_NodeOkS (c : Conf) {n : Node} (hn : n.ok) (hs : n.sz ≤ 1048576) : CallD Try.prog F_spec_NodeOk [confS c, rNode n] fun r _ => r = bS (nodeOk c n) := c_NodeOkSX c hn (by omega)

theorem any_not {α : Type} (p : α → Bool) (l : List α) : (l.any fun t => !p t) = !l.all p := by
  induction l with
  | nil => rfl
  | cons a l ih => simp only [List.any_cons, List.all_cons, ih, Bool.not_and]
theorem c_NodeOkX (c : Conf) {n : Node} (hn : n.ok) (hs : n.sz ≤ 2097152) : CallD Try.prog F_impl_NodeOk [confS c, rNode n] fun r _ => r = bS (nodeOk c n) := by
  unfold Node.sz at hs
  have hthings : ∀ t ∈ n.things, t.ok := hn.2.2.2.2.2.2.2.2.2.2.2.1.2
  have h1 : n.chunks.length ≤ M63 := by unfold M63; omega
  have h2 : n.things.length ≤ M63 := by unfold M63; omega
  have h3 : n.tags.length ≤ M63 := by unfold M63; omega
  refine k_impl_NodeOk ?_
  unfold vc_impl_NodeOk nodeOk
  refine ⟨_, c_confOk c, fun g1 => ⟨_, c_within _ _ _, fun g2 => ⟨_, c_within _ _ _, fun g3 => ⟨fun g4 => ⟨_, c_Bare h1 h2 h3, fun g5 => bS_eq ?_, fun g5 => bS_eq ?_⟩, fun g4 => ?_⟩, fun g3 => bS_eq ?_⟩, fun g2 => bS_eq ?_⟩, fun g1 => bS_eq ?_⟩
  · simp_all
  · simp_all
  · have e4 : n.st = 1 := by simpa using g4
    have hg := Conf.good_iff.1 g1
    rw [g1, g2, g3, if_pos e4]
    simp only [Bool.true_and]
    have eL : [iV n.up, iV n.first, iV n.next, iV n.prev] = ints [n.up, n.first, n.next, n.prev] := rfl
    simp only [eL, nI, n_ints, n_things]
    have h4 : [n.up, n.first, n.next, n.prev].length = 4 := rfl
    have links : liveB c n = true → ∀ j (hj : j < [n.up, n.first, n.next, n.prev].length), within [n.up, n.first, n.next, n.prev][j] 0 c.slots = true := fun h j hj => by
      simp only [liveB, Bool.and_eq_true] at h
      obtain ⟨-, -, k1, k2, k3, k4, -⟩ := h
      match j, hj with
      | 0, _ => exact k1
      | 1, _ => exact k2
      | 2, _ => exact k3
      | 3, _ => exact k4
    have back : (∀ j (hj : j < [n.up, n.first, n.next, n.prev].length), within [n.up, n.first, n.next, n.prev][j] 0 c.slots = true) → within n.up 0 c.slots = true ∧ within n.first 0 c.slots = true ∧ within n.next 0 c.slots = true ∧ within n.prev 0 c.slots = true :=
      fun h => ⟨h 0 (by simp), h 1 (by simp), h 2 (by simp), h 3 (by simp)⟩
    generalize [n.up, n.first, n.next, n.prev] = L at *
    clear eL
    refine ⟨fun i m => ∃ k : Nat, i = k ∧ k ≤ L.length ∧ m = L.length - k ∧ ∀ j (hj : j < L.length), j < k → within L[j] 0 c.slots = true, ⟨L.length, 0, rfl, Nat.zero_le _, rfl, fun j hj h => by omega⟩, ?_⟩
    rintro i m ⟨k, rfl, hk, rfl, ht⟩
    simp only [Int.toNat_natCast, Nat.mul_one, decide_eq_true_eq (p := (k : Int) < L.length), decide_eq_false_iff_not (p := (k : Int) < L.length)]
    refine ⟨fun k1 => ?_, fun k1 => ?_⟩
    · have ha : k < L.length := by omega
      have p0 : (DV.sl 1 (ints L)).getP [k] = iV L[k] := by
        show (ints L).getD k dfl = _
        rw [getD_ints ha, getD_eq ha]
      have p2 : placeOk (oneC (CV.own (DV.sl 1 (ints L)))) [k] := ⟨by rw [es_sl, ints_length]; exact ha, trivial⟩
      simp only [p0, isI_iV, asI_iV]
      refine ⟨by omega, by omega, p2, trivial, _, c_within _ _ _, fun k2 => ⟨⟨trivial, trivial, trivial, trivial⟩, L.length - (k + 1), by omega, k + 1, by rw [wrap_id] <;> omega, by omega, rfl, fun j hj hjk => ?_⟩, fun k2 => bS_eq ?_⟩
      · by_cases e : j = k
        · subst e; exact k2
        · exact ht j hj (by omega)
      · cases e : liveB c n with
        | false => rfl
        | true => rw [links e k ha] at k2; cases k2
    · obtain ⟨q1, q2, q3, q4⟩ := back fun j hj => ht j hj (by omega)
      have any := any_not (thingOk c) n.things
      have cB : chunksB c n = (distB c n.chunks && (if n.cur = 0 then decide (n.bump = 0) else has n.chunks (IntKind.i64.wrap (n.cur - 1)) && within n.bump 0 c.size)) := rfl
      clear links back ht hk k1
      unfold liveB
      rw [q1, q2, q3, q4]
      have neg : ∀ {a b : Int}, decide (a < b) = true → decide (b ≤ a) = false := fun h => by simp only [decide_eq_true_eq, decide_eq_false_iff_not] at *; omega
      have pos : ∀ {a b : Int}, decide (a < b) = false → decide (b ≤ a) = true := fun h => by simp only [decide_eq_true_eq, decide_eq_false_iff_not] at *; omega
      have hfn : ∀ t ∈ n.things, CallD Try.prog F_impl_NodeOk_1 (thingS t :: [[iV c.chunks, iV c.size, iV c.slots, iV c.tax, iV c.slice, iV c.gens]].map SV.rptr) fun r _ => r = bS (!thingOk c t) := fun t ht => by
        refine k_impl_NodeOk_1 ?_
        unfold vc_impl_NodeOk_1
        simp only [hdD_cons, asI_iV, isI_iV]
        exact ⟨by simp, trivial, trivial, trivial, trivial, trivial, trivial, _, c_ThingOk c (hthings t ht), fun h => bS_eq (by rw [h]), fun h => bS_eq (by rw [h])⟩
      refine ⟨fun g5 => bS_eq ?_, fun g5 => ⟨fun g6 => bS_eq ?_, fun g6 => ⟨_, c_distinct c h1, fun g7 => ⟨fun g8 => ⟨_, c_Contains h1 _, fun g9 => ⟨_, c_within _ _ _, fun g10 => ⟨fun g11 => ?_, fun g11 => ?_⟩, fun g10 => bS_eq ?_⟩, fun g9 => bS_eq ?_⟩,
        fun g8 => ⟨_, c_within _ _ _, fun g10 => ⟨fun g11 => ⟨fun g12 => bS_eq ?_, fun g12 => ?_⟩, fun g11 => ?_⟩, fun g10 => bS_eq ?_⟩⟩, fun g7 => bS_eq ?_⟩⟩⟩
      · rw [neg g5]; rfl
      · rw [neg g6]; simp
      · rw [g11] at g8; cases g8
      · have eB : chunksB c n = true := by
          have : n.cur ≠ 0 := by simpa using g11
          rw [cB, g7, if_neg this, g9, g10]; rfl
        rw [pos g5, pos g6, eB]
        simp only [Bool.true_and]
        refine ⟨fun t1 => ⟨fun t2 => ⟨_, c_areBytes h3, fun t3 => ⟨_, c_ContainsThing (p := fun t => !thingOk c t) h2 hfn, fun t4 => bS_eq ?_, fun t4 => bS_eq ?_⟩, fun t3 => bS_eq ?_⟩, fun t2 => bS_eq ?_⟩, fun t1 => bS_eq ?_⟩
        · rw [any] at t4; simp_all
        · rw [any] at t4; simp_all
        · rw [t3]; simp
        · rw [t2]; simp
        · rw [t1]; simp
      · have : n.cur ≠ 0 := by simpa using g8
        rw [cB, if_neg this, g10]; simp
      · have : n.cur ≠ 0 := by simpa using g8
        rw [cB, if_neg this, g9]; simp
      · have e0 : n.cur = 0 := by simpa using g11
        have e1 : decide (n.bump = 0) = false := by simpa using g12
        rw [cB, if_pos e0, e1]; simp
      · have eB : chunksB c n = true := by
          have e0 : n.cur = 0 := by simpa using g11
          have e1 : decide (n.bump = 0) = true := by simpa using g12
          rw [cB, g7, if_pos e0, e1]; rfl
        rw [pos g5, pos g6, eB]
        simp only [Bool.true_and]
        refine ⟨fun t1 => ⟨fun t2 => ⟨_, c_areBytes h3, fun t3 => ⟨_, c_ContainsThing (p := fun t => !thingOk c t) h2 hfn, fun t4 => bS_eq ?_, fun t4 => bS_eq ?_⟩, fun t3 => bS_eq ?_⟩, fun t2 => bS_eq ?_⟩, fun t1 => bS_eq ?_⟩
        · rw [any] at t4; simp_all
        · rw [any] at t4; simp_all
        · rw [t3]; simp
        · rw [t2]; simp
        · rw [t1]; simp
      · rw [g11] at g8; cases g8
      · have e0 : n.cur = 0 := by simpa using g8
        have e1 : decide (n.bump = 0) = false := by
          simp only [decide_eq_false_iff_not]
          intro e
          rw [e, within_false] at g10
          omega
        rw [cB, if_pos e0, e1]; simp
      · rw [cB, g7]; simp
  · rw [g3]; simp
  · rw [g2]; simp
  · rw [g1]; simp
theorem c_NodeOk (c : Conf) {n : Node} (hn : n.ok) (hs : n.sz ≤ 1048576) : CallD Try.prog F_impl_NodeOk [confS c, rNode n] fun r _ => r = bS (nodeOk c n) := c_NodeOkX c hn (by omega)
end Go.Proofs.Ythmpdfmdhfgaaaa
