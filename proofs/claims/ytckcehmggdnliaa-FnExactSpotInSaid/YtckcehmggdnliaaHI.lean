/- Contracts of small functions: bytes, distinct chunks, sizes, things and nodes that are valid. -/
import Derived.Test.YtckcehmggdnliaaHH
namespace Go.Proofs.Ytckcehmggdnliaa
open Go Go.Proofs.Ytckcehmggdnliaa.DL

def bytesB (l : List Int) : Bool := !l.any fun t => !within t 0 255
theorem bytesB_iff {l : List Int} : bytesB l = true ↔ ∀ i (hi : i < l.length), within l[i] 0 255 = true := by
  simp only [bytesB, Bool.not_eq_true', List.any_eq_false]
  constructor
  · intro h i hi
    have := h _ (List.getElem_mem hi)
    simpa using this
  · intro h x hx
    obtain ⟨i, hi, rfl⟩ := List.mem_iff_getElem.1 hx
    simp [h i hi]
theorem bytesB_false {l : List Int} {i : Nat} (hi : i < l.length) (h : within l[i] 0 255 = false) : bytesB l = false := by
  cases e : bytesB l with
  | false => rfl
  | true => have := bytesB_iff.1 e i hi; rw [h] at this; cases this
def distB (c : Conf) (l : List Int) : Bool := (List.range l.length).all fun i => within (l.getD i 0) 0 (IntKind.i64.wrap (c.chunks - 1)) && !has (l.take i) (l.getD i 0)
theorem distB_iff {c : Conf} {l : List Int} : distB c l = true ↔ ∀ i (hi : i < l.length), within l[i] 0 (IntKind.i64.wrap (c.chunks - 1)) = true ∧ has (l.take i) l[i] = false := by
  simp only [distB, List.all_eq_true, List.mem_range, Bool.and_eq_true, Bool.not_eq_true']
  constructor
  · intro h i hi
    have := h i hi
    rwa [getD_eq hi] at this
  · intro h i hi
    rw [getD_eq hi]
    exact h i hi
theorem distB_false {c : Conf} {l : List Int} {i : Nat} (hi : i < l.length) (h : within l[i] 0 (IntKind.i64.wrap (c.chunks - 1)) = false ∨ has (l.take i) l[i] = true) : distB c l = false := by
  cases e : distB c l with
  | false => rfl
  | true =>
    obtain ⟨h1, h2⟩ := distB_iff.1 e i hi
    rcases h with h | h
    · rw [h] at h1; cases h1
    · rw [h] at h2; cases h2
theorem c_areBytes {l : List Int} (hl : l.length ≤ M63) : CallD Try.prog F_impl_areBytes [rI l] fun r _ => r = bS (bytesB l) := by
  refine k_impl_areBytes ?_
  unfold vc_impl_areBytes
  refine ⟨_, c_ContainsFI (p := fun t => !within t 0 255) hl (fun t _ => ?_), fun h => bS_eq ?_, fun h => bS_eq ?_⟩
  · refine k_impl_areBytes_1 ?_
    unfold vc_impl_areBytes_1
    refine ⟨_, c_within _ _ _, fun h => bS_eq ?_, fun h => bS_eq ?_⟩ <;> rw [h]
  · rw [bytesB, h]
  · rw [bytesB, h]
theorem c_distinct (c : Conf) {l : List Int} (hl : l.length ≤ M63) : CallD Try.prog F_impl_distinct [confS c, rI l] fun r _ => r = bS (distB c l) := by
  refine k_impl_distinct ?_
  unfold vc_impl_distinct
  have hl' := hl
  unfold M63 at hl
  simp only [nI, n_ints]
  refine ⟨fun i m => ∃ k : Nat, i = k ∧ k ≤ l.length ∧ m = l.length - k ∧ ∀ i (hi : i < l.length), i < k → within l[i] 0 (IntKind.i64.wrap (c.chunks - 1)) = true ∧ has (l.take i) l[i] = false, ⟨l.length, 0, rfl, Nat.zero_le _, rfl, fun j hj h => by omega⟩, ?_⟩
  rintro i m ⟨k, rfl, hk, rfl, ht⟩
  simp only [Int.toNat_natCast, decide_eq_true_eq, decide_eq_false_iff_not, Nat.mul_one, take_ints, Int.toNat_zero, List.drop_zero]
  refine ⟨fun h1 => ?_, fun h1 => bS_eq ?_⟩
  · have ha : k < l.length := by omega
    have hlk : (l.take k).length ≤ M63 := by unfold M63; simp; omega
    simp only [hd_ints ha, getD_eq ha, isI_iV, asI_iV, wrap_id (n := (k : Int) + 1) (by omega) (by omega)]
    refine ⟨by omega, by omega, by simp [ints]; omega, trivial, _, c_within _ _ _, fun h2 => ⟨by omega, by omega, by omega, _, c_Contains hlk _, fun h3 => bS_eq ?_, fun h3 => ⟨⟨trivial, trivial, trivial, trivial⟩, l.length - (k + 1), by omega, k + 1, by omega, by omega, rfl, fun j hj hjk => ?_⟩⟩, fun h2 => bS_eq ?_⟩
    · exact (distB_false ha (.inr h3)).symm
    · by_cases e : j = k
      · subst e; exact ⟨h2, h3⟩
      · exact ht j hj (by omega)
    · exact (distB_false ha (.inl h2)).symm
  · symm
    exact distB_iff.2 fun i hi => ht i hi (by omega)


theorem within_iff {a b c : Int} : within a b c = true ↔ b ≤ a ∧ a ≤ c := by simp [within]
theorem within_false {a b c : Int} : within a b c = false ↔ ¬ (b ≤ a ∧ a ≤ c) := by rw [← within_iff]; simp
def ceilDiv (a b : Int) : Int := if within a 0 1000000000 && within b 1 1000000000 then IntKind.i64.wrap ((IntKind.i64.wrap (IntKind.i64.wrap (a + b) - 1)).tdiv b) else 0
theorem c_CeilDiv (a b : Int) : CallD Try.prog F_impl_CeilDiv [iS a, iS b] fun r _ => r = iS (ceilDiv a b) := by
  refine k_impl_CeilDiv ?_
  unfold vc_impl_CeilDiv ceilDiv
  refine ⟨_, c_within _ _ _, fun h1 => ⟨_, c_within _ _ _, fun h2 => ⟨?_, iS_eq ?_⟩, fun h2 => iS_eq ?_⟩, fun h1 => iS_eq ?_⟩
  · have := within_iff.1 h2; omega
  · rw [h1, h2]; rfl
  · rw [h1, h2]; rfl
  · rw [h1]; rfl
theorem c_CeilDivS (a b : Int) : CallD Try.prog F_spec_CeilDiv [iS a, iS b] fun r _ => r = iS (ceilDiv a b) := by
  refine k_spec_CeilDiv ?_
  unfold vc_spec_CeilDiv ceilDiv
  refine ⟨_, c_l1In _ _ _, fun h1 => ⟨_, c_l1In _ _ _, fun h2 => ⟨?_, iS_eq ?_⟩, fun h2 => iS_eq ?_⟩, fun h1 => iS_eq ?_⟩
  · have := within_iff.1 h2; omega
  · rw [h1, h2]; rfl
  · rw [h1, h2]; rfl
  · rw [h1]; rfl
def bytesOf (c : Conf) : Int := if c.good then IntKind.i64.wrap (c.chunks * c.size) else 0
theorem Conf.good_iff {c : Conf} : c.good = true ↔ (2 ≤ c.chunks ∧ c.chunks ≤ 12) ∧ (8 ≤ c.size ∧ c.size ≤ 16) ∧ (2 ≤ c.slots ∧ c.slots ≤ 8) ∧ (1 ≤ c.tax ∧ c.tax ≤ 8) ∧ (1 ≤ c.slice ∧ c.slice ≤ 16) ∧ (1 ≤ c.gens ∧ c.gens ≤ 4) := by
  simp only [Conf.good, Bool.and_eq_true, within_iff]
theorem bytesOf_good {c : Conf} (h : c.good = true) : bytesOf c = c.chunks * c.size ∧ 16 ≤ bytesOf c ∧ bytesOf c ≤ 192 := by
  obtain ⟨⟨h1, h2⟩, ⟨h3, h4⟩, -⟩ := Conf.good_iff.1 h
  have l1 : 2 * 8 ≤ c.chunks * c.size := Int.mul_le_mul h1 h3 (by omega) (by omega)
  have l2 : c.chunks * c.size ≤ 12 * 16 := Int.mul_le_mul h2 h4 (by omega) (by omega)
  unfold bytesOf
  rw [if_pos h, wrap_id (by omega) (by omega)]
  omega
theorem bytesOf_bad {c : Conf} (h : c.good = false) : bytesOf c = 0 := by unfold bytesOf; rw [h]; rfl
theorem c_BytesOf (c : Conf) : CallD Try.prog F_impl_BytesOf [confS c] fun r _ => r = iS (bytesOf c) := by
  refine k_impl_BytesOf ?_
  unfold vc_impl_BytesOf bytesOf
  exact ⟨_, c_confOk c, fun h => iS_eq (by rw [h]; rfl), fun h => iS_eq (by rw [h]; rfl)⟩
theorem c_BytesOfS (c : Conf) : CallD Try.prog F_spec_BytesOf [confS c] fun r _ => r = iS (bytesOf c) := by
  refine k_spec_BytesOf ?_
  unfold vc_spec_BytesOf bytesOf
  exact ⟨_, c_confOkS c, fun h => iS_eq (by rw [h]; rfl), fun h => iS_eq (by rw [h]; rfl)⟩
theorem c_ChunksFor (c : Conf) (b : Int) : CallD Try.prog F_impl_ChunksFor [confS c, iS b] fun r _ => r = iS (ceilDiv b c.size) := k_impl_ChunksFor ⟨_, c_CeilDiv _ _, rfl⟩
theorem c_ChunksForS (c : Conf) (b : Int) : CallD Try.prog F_spec_ChunksFor [confS c, iS b] fun r _ => r = iS (ceilDiv b c.size) := k_spec_ChunksFor ⟨_, c_CeilDivS _ _, rfl⟩
theorem c_IsLarge (c : Conf) (b : Int) : CallD Try.prog F_impl_IsLarge [confS c, iS b] fun r _ => r = bS (decide (c.size < b)) := k_impl_IsLarge ⟨fun h => bS_eq h.symm, fun h => bS_eq h.symm⟩
theorem c_IsLargeS (c : Conf) (b : Int) : CallD Try.prog F_spec_IsLarge [confS c, iS b] fun r _ => r = bS (decide (c.size < b)) := k_spec_IsLarge ⟨fun h => bS_eq h.symm, fun h => bS_eq h.symm⟩

def sameChunk (c : Conf) (t : Thing) : Bool := decide (IntKind.i64.wrap (t.pos.tdiv c.size) = IntKind.i64.wrap ((IntKind.i64.wrap (IntKind.i64.wrap (t.pos + t.len) - 1)).tdiv c.size))
def thingOk (c : Conf) (t : Thing) : Bool := decide (1 ≤ t.len) && (decide (0 ≤ t.pos) && (decide (t.len + t.pos ≤ bytesOf c) && (if t.run = 0 then decide (t.len ≤ c.size) && sameChunk c t
  else decide (c.size < t.len) && (decide (t.run = ceilDiv t.len c.size) && decide (t.pos.tmod c.size = 0)))))
theorem c_ThingOk (c : Conf) {t : Thing} (ht : t.ok) : CallD Try.prog F_impl_ThingOk [confS c, thingS t] fun r _ => r = bS (thingOk c t) := by
  obtain ⟨k1, k2, -⟩ := ht
  unfold I64 at k1 k2
  refine k_impl_ThingOk ?_
  unfold vc_impl_ThingOk
  refine ⟨_, c_BytesOf c, ?_⟩
  have hb : 0 ≤ bytesOf c ∧ bytesOf c ≤ 192 ∧ (0 < bytesOf c → 8 ≤ c.size) := by
    cases h : c.good with
    | true => have := bytesOf_good h; have := Conf.good_iff.1 h; refine ⟨?_, ?_, fun _ => ?_⟩ <;> omega
    | false => have := bytesOf_bad h; refine ⟨?_, ?_, fun _ => ?_⟩ <;> omega
  obtain ⟨hb1, hb2, hb3⟩ := hb
  have no : ¬ (1 ≤ t.len ∧ 0 ≤ t.pos ∧ t.len + t.pos ≤ bytesOf c) → bS false = bS (thingOk c t) := fun h => bS_eq (by
    rw [eq_comm]; unfold thingOk
    simp only [Bool.and_eq_false_iff, decide_eq_false_iff_not]; omega)
  have yes : (1 ≤ t.len ∧ 0 ≤ t.pos ∧ t.len + t.pos ≤ bytesOf c) → thingOk c t = if t.run = 0 then decide (t.len ≤ c.size) && sameChunk c t
      else decide (c.size < t.len) && (decide (t.run = ceilDiv t.len c.size) && decide (t.pos.tmod c.size = 0)) := fun h => by
    unfold thingOk; simp [h.1, h.2.1, h.2.2]
  generalize bytesOf c = n at *
  simp only [decide_eq_true_eq, decide_eq_false_iff_not]
  refine ⟨fun g => no (by omega), fun g1 => ⟨fun g => no (by omega), fun g2 => ⟨fun g => no (by omega), fun g3 => ?_⟩⟩⟩
  rw [wrap_id (n := n - t.len) (by omega) (by omega)]
  refine ⟨fun g => no (by omega), fun g4 => ?_⟩
  rw [yes (by omega)]
  refine ⟨fun g5 => ?_, fun g5 => ?_⟩
  · rw [if_pos g5]
    refine ⟨fun g6 => ⟨by omega, by omega, fun g7 => bS_eq ?_, fun g7 => bS_eq ?_⟩, fun g6 => bS_eq ?_⟩
    · simp [g6, sameChunk, g7]
    · simp [sameChunk, g7]
    · simp [g6]
  · rw [if_neg g5]
    refine ⟨_, c_IsLarge c _, fun g6 => ⟨_, c_ChunksFor c _, fun g7 => ⟨by omega, fun g8 => bS_eq ?_, fun g8 => bS_eq ?_⟩, fun g7 => bS_eq ?_⟩, fun g6 => bS_eq ?_⟩
    · simp [g6, g7.symm, g8]
    · simp [g8]
    · simp [g7]
    · rw [g6]; rfl
theorem c_ThingOkS (c : Conf) {t : Thing} (ht : t.ok) : CallD Try.prog F_spec_ThingOk [confS c, thingS t] fun r _ => r = bS (thingOk c t) := by
  obtain ⟨k1, k2, -⟩ := ht
  unfold I64 at k1 k2
  refine k_spec_ThingOk ?_
  unfold vc_spec_ThingOk
  refine ⟨_, c_BytesOfS c, ?_⟩
  have hb : 0 ≤ bytesOf c ∧ bytesOf c ≤ 192 ∧ (0 < bytesOf c → 8 ≤ c.size) := by
    cases h : c.good with
    | true => have := bytesOf_good h; have := Conf.good_iff.1 h; refine ⟨?_, ?_, fun _ => ?_⟩ <;> omega
    | false => have := bytesOf_bad h; refine ⟨?_, ?_, fun _ => ?_⟩ <;> omega
  obtain ⟨hb1, hb2, hb3⟩ := hb
  have no : ¬ (1 ≤ t.len ∧ 0 ≤ t.pos ∧ t.len + t.pos ≤ bytesOf c) → bS false = bS (thingOk c t) := fun h => bS_eq (by
    rw [eq_comm]; unfold thingOk
    simp only [Bool.and_eq_false_iff, decide_eq_false_iff_not]; omega)
  have yes : (1 ≤ t.len ∧ 0 ≤ t.pos ∧ t.len + t.pos ≤ bytesOf c) → thingOk c t = if t.run = 0 then decide (t.len ≤ c.size) && sameChunk c t
      else decide (c.size < t.len) && (decide (t.run = ceilDiv t.len c.size) && decide (t.pos.tmod c.size = 0)) := fun h => by
    unfold thingOk; simp [h.1, h.2.1, h.2.2]
  generalize bytesOf c = n at *
  simp only [decide_eq_true_eq, decide_eq_false_iff_not]
  refine ⟨fun g => no (by omega), fun g0 => ⟨fun g => no (by omega), fun g1 => ⟨fun g => no (by omega), fun g2 => ⟨fun g => no (by omega), fun g3 => ?_⟩⟩⟩⟩
  rw [wrap_id (n := n - t.pos) (by omega) (by omega)]
  refine ⟨fun g => no (by omega), fun g4 => ?_⟩
  rw [yes (by omega)]
  refine ⟨fun g5 => ?_, fun g5 => ?_⟩
  · rw [if_pos g5]
    refine ⟨fun g6 => ⟨by omega, by omega, fun g7 => bS_eq ?_, fun g7 => bS_eq ?_⟩, fun g6 => bS_eq ?_⟩
    · simp [g6, sameChunk, g7]
    · simp [sameChunk, g7]
    · simp [g6]
  · rw [if_neg g5]
    refine ⟨_, c_IsLargeS c _, fun g6 => ⟨_, c_ChunksForS c _, fun g7 => ⟨by omega, fun g8 => bS_eq ?_, fun g8 => bS_eq ?_⟩, fun g7 => bS_eq ?_⟩, fun g6 => bS_eq ?_⟩
    · simp [g6, g7.symm, g8]
    · simp [g8]
    · simp [g7]
    · rw [g6]; rfl

theorem c_EqualI {a b : List Int} (ha : a.length ≤ M63) : CallD Try.prog F_slices_Equal_int [rI a, rI b] fun r _ => r = bS (decide (a = b)) := by
  refine k_slices_Equal_int ?_
  unfold vc_slices_Equal_int
  simp only [nI, n_ints]
  refine ⟨fun h1 => bS_eq ?_, fun h1 => ?_⟩
  · have : a.length ≠ b.length := by simp at h1; omega
    have : a ≠ b := fun e => this (by rw [e])
    simp [this]
  · have hl : a.length = b.length := by simp at h1; omega
    refine ⟨fun i m => ∃ k : Nat, i = k ∧ k ≤ a.length ∧ m = a.length - k ∧ a.take k = b.take k, ⟨a.length, 0, rfl, Nat.zero_le _, rfl, rfl⟩, ?_⟩
    rintro i m ⟨k, rfl, hk, rfl, ht⟩
    simp only [Int.toNat_natCast, decide_eq_true_eq, decide_eq_false_iff_not, Nat.mul_one]
    refine ⟨fun h1 => ?_, fun h1 => bS_eq ?_⟩
    · have ha' : k < a.length := by omega
      have hb' : k < b.length := by omega
      unfold M63 at ha
      simp only [hd_ints ha', hd_ints hb', isI_iV, asI_iV, wrap_id (n := (k : Int) + 1) (by omega) (by omega)]
      refine ⟨by omega, by omega, by simp [ints]; omega, trivial, by omega, by omega, by simp [ints]; omega, trivial, fun h2 => bS_eq ?_, fun h2 => ⟨⟨trivial, trivial, trivial⟩, a.length - (k + 1), by omega, k + 1, by omega, by omega, rfl, all_take_succ ha' hb' ht (by simpa using h2)⟩⟩
      have : a ≠ b := fun e => by subst e; simp at h2
      simp [this]
    · have : k = a.length := by omega
      subst this
      rw [List.take_length, hl, List.take_length] at ht
      simp [ht]
theorem c_EqualT {a b : List Thing} (ha : a.length ≤ M63) : CallD Try.prog F_slices_Equal_impl_Thing [rTh a, rTh b] fun r _ => r = bS (decide (a = b)) := by
  refine k_slices_Equal_impl_Thing ?_
  unfold vc_slices_Equal_impl_Thing
  unfold M63 at ha
  simp only [nI, n_things]
  refine ⟨fun h1 => bS_eq ?_, fun h1 => ?_⟩
  · have : a.length ≠ b.length := by simp at h1; omega
    have : a ≠ b := fun e => this (by rw [e])
    simp [this]
  · have hl : a.length = b.length := by simp at h1; omega
    refine ⟨fun i m => ∃ k : Nat, i = k ∧ k ≤ a.length ∧ m = a.length - k ∧ a.take k = b.take k, ⟨a.length, 0, rfl, Nat.zero_le _, rfl, rfl⟩, ?_⟩
    rintro i m ⟨k, rfl, hk, rfl, ht⟩
    simp only [Int.toNat_natCast, decide_eq_true_eq (p := (k : Int) < a.length), decide_eq_false_iff_not (p := (k : Int) < a.length)]
    refine ⟨fun h1 => ?_, fun h1 => bS_eq ?_⟩
    · have ha' : k < a.length := by omega
      have hb' : k < b.length := by omega
      simp only [drop_things ha', drop_things hb', hdD_cons, List.tail_cons, isI_iV, asI_iV, wrap_id (n := (k : Int) + 1) (by omega) (by omega), Bool.and_true]
      refine ⟨by omega, by omega, by simp, trivial, trivial, trivial, by omega, by omega, by simp, trivial, trivial, trivial, fun h2 => bS_eq ?_, fun h2 => ⟨⟨trivial, trivial, trivial⟩, a.length - (k + 1), by omega, k + 1, by omega, by omega, rfl, take_next ha' hb' ht ?_⟩⟩
      · have : a ≠ b := fun e => by subst e; simp at h2
        simp [this]
      · rw [Thing.eq_iff]; simpa using h2
    · have : k = a.length := by omega
      subst this
      rw [List.take_length, hl, List.take_length] at ht
      simp [ht]
end Go.Proofs.Ytckcehmggdnliaa
