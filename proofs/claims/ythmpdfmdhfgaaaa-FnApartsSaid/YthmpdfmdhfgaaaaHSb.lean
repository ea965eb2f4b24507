/- Contracts of what is left of a room: both sides. -/
import Derived.Test.YthmpdfmdhfgaaaaHDe
import Derived.Test.YthmpdfmdhfgaaaaHSa
import Derived.Test.YthmpdfmdhfgaaaaVHSb
namespace Go.Proofs.Ythmpdfmdhfgaaaa
open Go Go.Proofs.Ythmpdfmdhfgaaaa.DL
set_option maxRecDepth 100000

theorem c_big {v : Value} {a : List Int} : CallD Try.prog F_laws_big [codeS v a] fun r _ => r = bS (decide (1048576 < (a.length : Int))) := by
  refine k_laws_big ?_
  unfold vc_laws_big
  simp only [nI, n_byts]
  exact ⟨fun h => bS_eq h.symm, fun h => bS_eq h.symm⟩
theorem ceilDiv_bd (a b : Int) : 0 ≤ ceilDiv a b ∧ ceilDiv a b ≤ 1000000000 := by
  unfold ceilDiv
  split
  · rename_i h
    simp only [within, Bool.and_eq_true, decide_eq_true_eq] at h
    rw [wrap_id (n := a + b) (by omega) (by omega), wrap_id (n := a + b - 1) (by omega) (by omega), Int.tdiv_eq_ediv_of_nonneg (by omega)]
    have h1 : 0 ≤ (a + b - 1) / b := Int.ediv_nonneg (by omega) (by omega)
    have h2 : (a + b - 1) / b < 1000000001 := Int.ediv_lt_of_lt_mul (by omega) (by omega)
    rw [wrap_id (by omega) (by omega)]
    omega
  · omega
theorem c_SlicesOf (c : Conf) (n : Int) : CallD Try.prog F_impl_SlicesOf [confS c, iS n] fun r _ => r = iS (ceilDiv n c.slice) := k_impl_SlicesOf ⟨_, c_CeilDiv _ _, rfl⟩
theorem c_SlicesOfS (c : Conf) (n : Int) : CallD Try.prog F_spec_SlicesOf [confS c, iS n] fun r _ => r = iS (ceilDiv n c.slice) := k_spec_SlicesOf ⟨_, c_CeilDivS _ _, rfl⟩
def steps (c : Conf) (x : Waste) : Nat → Int
  | 0 => IntKind.i64.wrap (x.tags.length + 1)
  | k + 1 => IntKind.i64.wrap (steps c x k + if k = 0 then ceilDiv (IntKind.i64.wrap (c.size - x.done)) c.slice else ceilDiv c.size c.slice)
theorem c_OwnSteps (c : Conf) {x : Waste} (hx : x.chunks.length ≤ M63) : CallD Try.prog F_impl_OwnSteps [confS c, rWaste x] fun r _ => r = iS (steps c x x.chunks.length) := by
  unfold M63 at hx
  refine k_impl_OwnSteps ?_
  unfold vc_impl_OwnSteps
  simp only [nI, n_ints]
  refine ⟨fun n i m => ∃ k : Nat, i = k ∧ k ≤ x.chunks.length ∧ m = x.chunks.length - k ∧ n = steps c x k, ⟨_, 0, rfl, Nat.zero_le _, rfl, rfl⟩, ?_⟩
  rintro n i m ⟨k, rfl, hk, rfl, rfl⟩
  simp only [decide_eq_true_eq, decide_eq_false_iff_not]
  refine ⟨fun h1 => ⟨fun h2 => ⟨_, c_SlicesOf c _, ⟨trivial, trivial, trivial⟩, x.chunks.length - (k + 1), by omega, k + 1, ?_, by omega, rfl, ?_⟩, fun h2 => ⟨_, c_SlicesOf c _, ⟨trivial, trivial, trivial⟩, x.chunks.length - (k + 1), by omega, k + 1, ?_, by omega, rfl, ?_⟩⟩, fun h1 => iS_eq ?_⟩
  · exact wrap_id (by omega) (by omega)
  · rw [steps, if_pos (by omega)]
  · exact wrap_id (by omega) (by omega)
  · rw [steps, if_neg (by omega)]
  · have : k = x.chunks.length := by omega
    rw [this]
theorem c_OwnStepsS (c : Conf) {x : Waste} (hx : x.chunks.length ≤ M63) : CallD Try.prog F_spec_OwnSteps [confS c, rWaste x] fun r _ => r = iS (steps c x x.chunks.length) := by
  unfold M63 at hx
  refine k_spec_OwnSteps ?_
  unfold vc_spec_OwnSteps
  simp only [nI, n_ints]
  refine ⟨fun n i m => ∃ k : Nat, i = k ∧ k ≤ x.chunks.length ∧ m = x.chunks.length - k ∧ n = steps c x k, ⟨_, 0, rfl, Nat.zero_le _, rfl, rfl⟩, ?_⟩
  rintro n i m ⟨k, rfl, hk, rfl, rfl⟩
  simp only [decide_eq_true_eq, decide_eq_false_iff_not]
  refine ⟨fun h1 => ⟨fun h2 => ⟨_, c_SlicesOfS c _, ⟨trivial, trivial⟩, x.chunks.length - (k + 1), by omega, k + 1, ?_, by omega, rfl, ?_⟩, fun h2 => ⟨_, c_SlicesOfS c _, ⟨trivial, trivial⟩, x.chunks.length - (k + 1), by omega, k + 1, ?_, by omega, rfl, ?_⟩⟩, fun h1 => iS_eq ?_⟩
  · exact wrap_id (by omega) (by omega)
  · rw [steps, if_pos (by omega)]
  · exact wrap_id (by omega) (by omega)
  · rw [steps, if_neg (by omega)]
  · have : k = x.chunks.length := by omega
    rw [this]

namespace WasteOk
def wok (c : Conf) (x : Waste) : Bool := c.good && (within x.slot 0 c.slots && (within x.first 0 c.slots && (decide ((x.tags.length : Int) ≤ 6) && (bytesB x.tags && (distB c x.chunks &&
  (within x.done 0 (IntKind.i64.wrap (c.size - 1)) && (decide (0 < (x.chunks.length : Int)) || decide (x.done = 0))))))))
theorem c_impl (c : Conf) {x : Waste} (h1 : x.tags.length ≤ M63) (h2 : x.chunks.length ≤ M63) : CallD Try.prog F_impl_WasteOk [confS c, rWaste x] fun r _ => r = bS (wok c x) := by
  refine k_impl_WasteOk ?_
  unfold vc_impl_WasteOk wok
  simp only [nI, n_ints]
  refine ⟨_, c_confOk c, fun g1 => ⟨_, c_within _ _ _, fun g2 => ⟨_, c_within _ _ _, fun g3 => ⟨fun g4 => ⟨_, c_areBytes h1, fun g5 => ⟨_, c_distinct c h2, fun g6 => ⟨_, c_within _ _ _, fun g7 => ⟨fun g8 => bS_eq ?_, fun g8 => ⟨fun g9 => bS_eq ?_, fun g9 => bS_eq ?_⟩⟩,
    fun g7 => bS_eq ?_⟩, fun g6 => bS_eq ?_⟩, fun g5 => bS_eq ?_⟩, fun g4 => bS_eq ?_⟩, fun g3 => bS_eq ?_⟩, fun g2 => bS_eq ?_⟩, fun g1 => bS_eq ?_⟩ <;> simp_all <;> (intros; omega)
theorem c_spec (c : Conf) {x : Waste} (hl1 : x.tags.length ≤ M63) (hl2 : x.chunks.length ≤ M63) : CallD Try.prog F_spec_WasteOk [confS c, rWaste x] fun r _ => r = bS (wok c x) := by
  refine k_spec_WasteOk ?_
  unfold vc_spec_WasteOk wok
  unfold M63 at hl1 hl2
  simp only [nI, n_ints]
  refine ⟨_, c_confOkS c, fun g1 => ⟨_, c_l1In _ _ _, fun g2 => ⟨_, c_l1In _ _ _, fun g3 => ⟨fun g4 => bS_eq ?_, fun g4 => ⟨_, c_l1In _ _ _, fun g7 => ⟨fun g8 => ⟨fun g9 => bS_eq ?_, fun g9 => ?_⟩, fun g8 => ?_⟩, fun g7 => bS_eq ?_⟩⟩, fun g3 => bS_eq ?_⟩, fun g2 => bS_eq ?_⟩, fun g1 => bS_eq ?_⟩
  · have : decide ((x.tags.length : Int) ≤ 6) = false := by simp only [decide_eq_true_eq, decide_eq_false_iff_not] at g4 ⊢; omega
    simp only [this, Bool.false_and, Bool.and_false]
  · have e1 : decide (0 < (x.chunks.length : Int)) = false := by simp only [decide_eq_true_eq, decide_eq_false_iff_not] at g8 ⊢; omega
    have e2 : decide (x.done = 0) = false := by simpa using g9
    simp only [e1, e2, Bool.or_self, Bool.and_false]
  · have e4 : decide ((x.tags.length : Int) ≤ 6) = true := by simp only [decide_eq_true_eq, decide_eq_false_iff_not] at g4 ⊢; omega
    have e8 : (decide (0 < (x.chunks.length : Int)) || decide (x.done = 0)) = true := by
      have : decide (x.done = 0) = true := by simpa using g9
      rw [this, Bool.or_true]
    refine ⟨fun i m => ∃ k : Nat, i = k ∧ k ≤ x.tags.length ∧ m = x.tags.length - k ∧ ∀ i (hi : i < x.tags.length), i < k → within x.tags[i] 0 255 = true, ⟨x.tags.length, 0, rfl, Nat.zero_le _, rfl, fun j hj h => by omega⟩, ?_⟩
    rintro i m ⟨k, rfl, hk, rfl, ht⟩
    simp only [Int.toNat_natCast, Nat.mul_one, decide_eq_true_eq (p := (k : Int) < x.tags.length), decide_eq_false_iff_not (p := (k : Int) < x.tags.length)]
    refine ⟨fun k1 => ?_, fun k1 => ?_⟩
    · have ha : k < x.tags.length := by omega
      simp only [hd_ints ha, getD_eq ha, isI_iV, asI_iV, wrap_id (n := (k : Int) + 1) (by omega) (by omega)]
      refine ⟨by omega, by omega, by simp [ints]; omega, trivial, _, c_l1In _ _ _, fun k2 => ⟨⟨trivial, trivial⟩, x.tags.length - (k + 1), by omega, k + 1, by omega, by omega, rfl, fun j hj hjk => ?_⟩, fun k2 => bS_eq ?_⟩
      · by_cases e : j = k
        · subst e; exact k2
        · exact ht j hj (by omega)
      · simp only [bytesB_false ha k2, Bool.false_and, Bool.and_false]
    · have e5 : bytesB x.tags = true := bytesB_iff.2 fun i hi => ht i hi (by omega)
      clear ht k1 hk
      refine ⟨fun i m => ∃ k : Nat, i = k ∧ k ≤ x.chunks.length ∧ m = x.chunks.length - k ∧ ∀ i (hi : i < x.chunks.length), i < k → within x.chunks[i] 0 (IntKind.i64.wrap (c.chunks - 1)) = true ∧ has (x.chunks.take i) x.chunks[i] = false, ⟨x.chunks.length, 0, rfl, Nat.zero_le _, rfl, fun j hj h => by omega⟩, ?_⟩
      rintro i m ⟨k, rfl, hk, rfl, ht⟩
      simp only [Int.toNat_natCast, decide_eq_true_eq (p := (k : Int) < x.chunks.length), decide_eq_false_iff_not (p := (k : Int) < x.chunks.length), take_ints, Int.toNat_zero, List.drop_zero]
      refine ⟨fun k1 => ?_, fun k1 => bS_eq ?_⟩
      · have ha : k < x.chunks.length := by omega
        have hlk : (x.chunks.take k).length ≤ M63 := by unfold M63; simp; omega
        simp only [hd_ints ha, getD_eq ha, isI_iV, asI_iV, wrap_id (n := (k : Int) + 1) (by omega) (by omega)]
        refine ⟨by omega, by omega, by simp [ints]; omega, trivial, _, c_l1In _ _ _, fun k2 => ⟨by omega, by omega, by omega, by omega, by omega, by simp [ints]; omega, trivial, _, c_has hlk _, fun k3 => bS_eq ?_, fun k3 => ⟨⟨trivial, trivial⟩, x.chunks.length - (k + 1), by omega, k + 1, by omega, by omega, rfl, fun j hj hjk => ?_⟩⟩, fun k2 => bS_eq ?_⟩
        · simp only [distB_false ha (.inr k3), Bool.false_and, Bool.and_false]
        · by_cases e : j = k
          · subst e; exact ⟨k2, k3⟩
          · exact ht j hj (by omega)
        · simp only [distB_false ha (.inl k2), Bool.false_and, Bool.and_false]
      · have e6 : distB c x.chunks = true := distB_iff.2 fun i hi => ht i hi (by omega)
        simp only [g1, g2, g3, e4, e5, e6, g7, e8, Bool.and_self]
  · have e4 : decide ((x.tags.length : Int) ≤ 6) = true := by simp only [decide_eq_true_eq, decide_eq_false_iff_not] at g4 ⊢; omega
    have e8 : (decide (0 < (x.chunks.length : Int)) || decide (x.done = 0)) = true := by
      have : decide (0 < (x.chunks.length : Int)) = true := by simp only [decide_eq_true_eq, decide_eq_false_iff_not] at g8 ⊢; omega
      rw [this, Bool.true_or]
    refine ⟨fun i m => ∃ k : Nat, i = k ∧ k ≤ x.tags.length ∧ m = x.tags.length - k ∧ ∀ i (hi : i < x.tags.length), i < k → within x.tags[i] 0 255 = true, ⟨x.tags.length, 0, rfl, Nat.zero_le _, rfl, fun j hj h => by omega⟩, ?_⟩
    rintro i m ⟨k, rfl, hk, rfl, ht⟩
    simp only [Int.toNat_natCast, Nat.mul_one, decide_eq_true_eq (p := (k : Int) < x.tags.length), decide_eq_false_iff_not (p := (k : Int) < x.tags.length)]
    refine ⟨fun k1 => ?_, fun k1 => ?_⟩
    · have ha : k < x.tags.length := by omega
      simp only [hd_ints ha, getD_eq ha, isI_iV, asI_iV, wrap_id (n := (k : Int) + 1) (by omega) (by omega)]
      refine ⟨by omega, by omega, by simp [ints]; omega, trivial, _, c_l1In _ _ _, fun k2 => ⟨⟨trivial, trivial⟩, x.tags.length - (k + 1), by omega, k + 1, by omega, by omega, rfl, fun j hj hjk => ?_⟩, fun k2 => bS_eq ?_⟩
      · by_cases e : j = k
        · subst e; exact k2
        · exact ht j hj (by omega)
      · simp only [bytesB_false ha k2, Bool.false_and, Bool.and_false]
    · have e5 : bytesB x.tags = true := bytesB_iff.2 fun i hi => ht i hi (by omega)
      clear ht k1 hk
      refine ⟨fun i m => ∃ k : Nat, i = k ∧ k ≤ x.chunks.length ∧ m = x.chunks.length - k ∧ ∀ i (hi : i < x.chunks.length), i < k → within x.chunks[i] 0 (IntKind.i64.wrap (c.chunks - 1)) = true ∧ has (x.chunks.take i) x.chunks[i] = false, ⟨x.chunks.length, 0, rfl, Nat.zero_le _, rfl, fun j hj h => by omega⟩, ?_⟩
      rintro i m ⟨k, rfl, hk, rfl, ht⟩
      simp only [Int.toNat_natCast, decide_eq_true_eq (p := (k : Int) < x.chunks.length), decide_eq_false_iff_not (p := (k : Int) < x.chunks.length), take_ints, Int.toNat_zero, List.drop_zero]
      refine ⟨fun k1 => ?_, fun k1 => bS_eq ?_⟩
      · have ha : k < x.chunks.length := by omega
        have hlk : (x.chunks.take k).length ≤ M63 := by unfold M63; simp; omega
        simp only [hd_ints ha, getD_eq ha, isI_iV, asI_iV, wrap_id (n := (k : Int) + 1) (by omega) (by omega)]
        refine ⟨by omega, by omega, by simp [ints]; omega, trivial, _, c_l1In _ _ _, fun k2 => ⟨by omega, by omega, by omega, by omega, by omega, by simp [ints]; omega, trivial, _, c_has hlk _, fun k3 => bS_eq ?_, fun k3 => ⟨⟨trivial, trivial⟩, x.chunks.length - (k + 1), by omega, k + 1, by omega, by omega, rfl, fun j hj hjk => ?_⟩⟩, fun k2 => bS_eq ?_⟩
        · simp only [distB_false ha (.inr k3), Bool.false_and, Bool.and_false]
        · by_cases e : j = k
          · subst e; exact ⟨k2, k3⟩
          · exact ht j hj (by omega)
        · simp only [distB_false ha (.inl k2), Bool.false_and, Bool.and_false]
      · have e6 : distB c x.chunks = true := distB_iff.2 fun i hi => ht i hi (by omega)
        simp only [g1, g2, g3, e4, e5, e6, g7, e8, Bool.and_self]
  · simp only [g7, Bool.false_and, Bool.and_false]
  · simp only [g3, Bool.false_and, Bool.and_false]
  · simp only [g2, Bool.false_and, Bool.and_false]
  · simp only [g1, Bool.false_and]
end WasteOk
namespace NextOf
def next (x : Waste) : Int := if 0 < x.tags.length then 1 else if 0 < x.chunks.length then 2 else if x.first ≠ 0 then 3 else 4
theorem c_impl (x : Waste) : CallD Try.prog F_impl_NextOf [rWaste x] fun r _ => r = iS (next x) := by
  refine k_impl_NextOf ?_
  unfold vc_impl_NextOf
  simp only [nI, n_ints]
  refine ⟨fun h1 => iS_eq ?_, fun h1 => ⟨fun h2 => iS_eq ?_, fun h2 => ⟨fun h3 => iS_eq ?_, fun h3 => iS_eq ?_⟩⟩⟩ <;> simp at * <;> simp_all [next]
theorem c_spec (x : Waste) : CallD Try.prog F_spec_NextOf [rWaste x] fun r _ => r = iS (next x) := by
  refine k_spec_NextOf ?_
  unfold vc_spec_NextOf
  simp only [nI, n_ints]
  refine ⟨fun h1 => iS_eq ?_, fun h1 => ⟨fun h2 => iS_eq ?_, fun h2 => ⟨fun h3 => iS_eq ?_, fun h3 => iS_eq ?_⟩⟩⟩ <;> simp at * <;> simp_all [next]
end NextOf
namespace TagsDown
theorem c_reverse {l : List Int} (hl : l.length ≤ 1048576) : CallD Try.prog F_slices_Reverse_int [oI l] fun r bs => r = .tup [] ∧ bs.getD 0 .dead = oI l.reverse := by
  refine k_slices_Reverse_int ?_
  unfold vc_slices_Reverse_int
  simp only [nI, n_ints, es_sl]
  refine ⟨fun es n n1 m => ∃ (k : Nat) (s : List Int), n = k ∧ n1 = (l.length : Int) - 1 - k ∧ 2 * k ≤ l.length + 1 ∧ m = l.length + 1 - k ∧ es = ints s ∧ s.length = l.length ∧
    ∀ i (hi : i < s.length) (hi' : i < l.length), s[i] = if i < k ∨ l.length - k ≤ i then l[l.length - 1 - i] else l[i], ⟨_, 0, l, rfl, by rw [wrap_id] <;> omega, by omega, rfl, rfl, rfl, fun i hi hi' => ?_⟩, ?_⟩
  · rw [if_neg (by omega)]
  rintro es n n1 m ⟨k, s, rfl, rfl, hk, rfl, rfl, hs, ht⟩
  simp only [Int.toNat_natCast, Nat.mul_one, n_ints, decide_eq_true_eq, decide_eq_false_iff_not]
  refine ⟨fun h1 => ?_, fun h1 => ⟨trivial, ?_⟩⟩
  · have ha : k < s.length := by omega
    have hb : l.length - 1 - k < s.length := by omega
    have e1 : ((l.length : Int) - 1 - k).toNat = l.length - 1 - k := by omega
    have p1 : ∀ j, j < s.length → DV.isI .i64 ((DV.sl 1 (ints s)).getP [j]) = True := fun j hj => by
      have : (DV.sl 1 (ints s)).getP [j] = (ints s).getD j dfl := rfl
      rw [this, getD_ints hj, isI_iV]
    have p2 : ∀ j, j < s.length → placeOk (oneC (CV.own (DV.sl 1 (ints s)))) [j] := fun j hj => by
      show j < (ints s).length ∧ True
      exact ⟨by rw [ints_length]; exact hj, trivial⟩
    rw [e1]
    simp only [getD_ints ha, getD_ints hb, asI_iV, set_ints, n_ints, List.length_set, ints_length]
    refine ⟨by omega, by omega, p2 _ hb, by rw [p1 _ hb]; trivial, by omega, by omega, p2 _ ha, by rw [p1 _ ha]; trivial, by omega, by omega, trivial, by omega, by omega, by omega, trivial, by omega, trivial, l.length + 1 - (k + 1), by omega, k + 1, _, by rw [wrap_id] <;> omega,
      by rw [wrap_id] <;> omega, by omega, rfl, rfl, by simp [hs], fun i hi hi' => ?_⟩
    simp only [List.length_set] at hi
    have g1 := ht k ha (by omega)
    have g2 := ht (l.length - 1 - k) hb (by omega)
    rw [if_neg (by omega)] at g1 g2
    simp only [getD_eq ha, getD_eq hb, g1, g2, List.getElem_set]
    by_cases c1 : l.length - 1 - k = i
    · rw [if_pos c1, if_pos (by omega)]
      congr 1; omega
    · rw [if_neg c1]
      by_cases c2 : k = i
      · subst c2
        rw [if_pos rfl, if_pos (by omega)]
      · rw [if_neg c2, ht i hi hi']
        by_cases c3 : i < k ∨ l.length - k ≤ i
        · rw [if_pos c3, if_pos (by omega)]
        · rw [if_neg c3, if_neg (by omega)]
  · show oI s = oI l.reverse
    refine oI_eq (List.ext_getElem (by simp [hs]) fun i h2 h3 => ?_)
    have hi' : i < l.length := by omega
    rw [ht i h2 hi', List.getElem_reverse]
    split
    · rfl
    · congr 1; omega
theorem c_impl {l : List Int} (hl : l.length ≤ 1048576) : CallD Try.prog F_impl_TagsDown [rI l] fun r _ => r = oI l.reverse := by
  refine k_impl_TagsDown ?_
  unfold vc_impl_TagsDown
  exact ⟨_, c_cloneI hl, trivial, rfl, _, rfl, c_reverse hl, rfl⟩
theorem c_spec {l : List Int} (hl : l.length ≤ 1048576) : CallD Try.prog F_spec_TagsDown [rI l] fun r _ => r = oI l.reverse := by
  refine k_spec_TagsDown ?_
  unfold vc_spec_TagsDown
  simp only [nI, n_one, ints_length, List.length_singleton]
  refine ⟨fun es n m => ∃ k : Nat, n = (k : Int) - 1 ∧ k ≤ l.length ∧ m = k ∧ es = ints (l.drop k).reverse, ⟨_, l.length, by rw [wrap_id] <;> omega, Nat.le_refl _, rfl, by simp [ints]⟩, ?_⟩
  rintro es n m ⟨k, rfl, hk, hm, rfl⟩
  simp only [decide_eq_true_eq, decide_eq_false_iff_not, Nat.mul_one]
  refine ⟨fun h1 => ?_, fun h1 => ?_⟩
  · have ha : k - 1 < l.length := by omega
    have e1 : ((k : Int) - 1).toNat = k - 1 := by omega
    rw [e1]
    simp only [hd_ints ha, getD_eq ha, isI_iV, asI_iV, ints_snoc, ints_length]
    refine ⟨by omega, by omega, by simp [ints]; omega, trivial, by simp; omega, by simp; omega, trivial, k - 1, by omega, k - 1, by rw [wrap_id] <;> omega, by omega, rfl, ?_⟩
    congr 1
    have e2 : l.drop (k - 1) = l[k - 1] :: l.drop k := by
      rw [List.drop_eq_getElem_cons ha]
      congr 2; omega
    rw [e2, List.reverse_cons]
  · have : k = 0 := by omega
    subst this
    simp
end TagsDown
namespace Emptied
def res (n : Node) : Node := ⟨n.st, n.gen, IntKind.i64.wrap (n.ep + 1), n.up, n.upEp, 0, n.next, n.prev, [], 0, 0, [], []⟩
theorem c_spec {n : Node} (hs : n.sz ≤ 1048576) : CallD Try.prog F_spec_Emptied [rNode n] fun r _ => r = oNode (res n) := by
  refine k_spec_Emptied ?_
  unfold vc_spec_Emptied
  exact ⟨_, _, _, _, _, _, _, _, _, _, _, _, _, c_l7Copy hs, rfl⟩
theorem c_impl {n : Node} (_ : n.sz ≤ 1048576) : CallD Try.prog F_impl_Emptied [rNode n] fun r _ => r = oNode (res n) := k_impl_Emptied rfl
end Emptied
namespace Gone
def res (n : Node) : Node := ⟨2, n.gen, 0, 0, 0, 0, 0, 0, [], 0, 0, [], []⟩
theorem c_spec {n : Node} (_ : n.sz ≤ 1048576) : CallD Try.prog F_spec_Gone [rNode n] fun r _ => r = oNode (res n) := k_spec_Gone rfl
theorem c_impl {n : Node} (_ : n.sz ≤ 1048576) : CallD Try.prog F_impl_Gone [rNode n] fun r _ => r = oNode (res n) := k_impl_Gone rfl
end Gone

end Go.Proofs.Ythmpdfmdhfgaaaa
