/- The program's WasteOk returns what the reference's WasteOk returns, for all arguments: the law FnExactWasteOk says true of every configuration and remains. No conditions. -/
import Derived.Test.YtbmflnlppnkbaaaHC
import Derived.Test.YtbmflnlppnkbaaaRows
import Derived.Test.YtbmflnlppnkbaaaChecked
import Derived.ProofKit
namespace Go.Proofs.Ytbmflnlppnkbaaa
open Go Go.Proofs.Ytbmflnlppnkbaaa.DL
open Go.ChangeShapes Go.WideShapes Go.ChangeAt Go.RowKit
set_option maxRecDepth 100000

namespace WasteOk
def bytesB (l : List Int) : Bool := !l.any fun t => !within t 0 255
theorem bytesB_iff {l : List Int} : bytesB l = true ↔ ∀ i (hi : i < l.length), within l[i] 0 255 = true := by
  simp only [bytesB, Bool.not_eq_true', List.any_eq_false]
  constructor
  · intro h i hi
    have := h _ (List.getElem_mem hi)
    simpa using this
  · intro h x hx
    obtain ⟨i, hi, rfl⟩ := List.mem_iff_getElem.1 hx
    simp [h i hi]
theorem bytesB_false {l : List Int} {i : Nat} (hi : i < l.length) (h : within l[i] 0 255 = false) : bytesB l = false := by
  cases e : bytesB l with
  | false => rfl
  | true => have := bytesB_iff.1 e i hi; rw [h] at this; cases this
def distB (c : Conf) (l : List Int) : Bool := (List.range l.length).all fun i => within (l.getD i 0) 0 (IntKind.i64.wrap (c.chunks - 1)) && !has (l.take i) (l.getD i 0)
theorem distB_iff {c : Conf} {l : List Int} : distB c l = true ↔ ∀ i (hi : i < l.length), within l[i] 0 (IntKind.i64.wrap (c.chunks - 1)) = true ∧ has (l.take i) l[i] = false := by
  simp only [distB, List.all_eq_true, List.mem_range, Bool.and_eq_true, Bool.not_eq_true']
  constructor
  · intro h i hi
    have := h i hi
    rwa [getD_eq hi] at this
  · intro h i hi
    rw [getD_eq hi]
    exact h i hi
theorem distB_false {c : Conf} {l : List Int} {i : Nat} (hi : i < l.length) (h : within l[i] 0 (IntKind.i64.wrap (c.chunks - 1)) = false ∨ has (l.take i) l[i] = true) : distB c l = false := by
  cases e : distB c l with
  | false => rfl
  | true =>
    obtain ⟨h1, h2⟩ := distB_iff.1 e i hi
    rcases h with h | h
    · rw [h] at h1; cases h1
    · rw [h] at h2; cases h2
theorem c_areBytes {l : List Int} (hl : l.length ≤ M63) : CallD Try.prog F_impl_areBytes [rI l] fun r _ => r = bS (bytesB l) := by
  refine k_impl_areBytes ?_
  unfold vc_impl_areBytes
  refine ⟨_, c_ContainsFI (p := fun t => !within t 0 255) hl (fun t _ => ?_), fun h => bS_eq ?_, fun h => bS_eq ?_⟩
  · refine k_impl_areBytes_1 ?_
    unfold vc_impl_areBytes_1
    refine ⟨_, c_within _ _ _, fun h => bS_eq ?_, fun h => bS_eq ?_⟩ <;> rw [h]
  · rw [bytesB, h]
  · rw [bytesB, h]
theorem c_distinct (c : Conf) {l : List Int} (hl : l.length ≤ M63) : CallD Try.prog F_impl_distinct [confS c, rI l] fun r _ => r = bS (distB c l) := by
  refine k_impl_distinct ?_
  unfold vc_impl_distinct
  have hl' := hl
  unfold M63 at hl
  simp only [nI, n_ints]
  refine ⟨fun i m => ∃ k : Nat, i = k ∧ k ≤ l.length ∧ m = l.length - k ∧ ∀ i (hi : i < l.length), i < k → within l[i] 0 (IntKind.i64.wrap (c.chunks - 1)) = true ∧ has (l.take i) l[i] = false, ⟨l.length, 0, rfl, Nat.zero_le _, rfl, fun j hj h => by omega⟩, ?_⟩
  rintro i m ⟨k, rfl, hk, rfl, ht⟩
  simp only [Int.toNat_natCast, decide_eq_true_eq, decide_eq_false_iff_not, Nat.mul_one, take_ints, Int.toNat_zero, List.drop_zero]
  refine ⟨fun h1 => ?_, fun h1 => bS_eq ?_⟩
  · have ha : k < l.length := by omega
    have hlk : (l.take k).length ≤ M63 := by unfold M63; simp; omega
    simp only [hd_ints ha, getD_eq ha, isI_iV, asI_iV, wrap_id (n := (k : Int) + 1) (by omega) (by omega)]
    refine ⟨by omega, by omega, by simp [ints]; omega, trivial, _, c_within _ _ _, fun h2 => ⟨by omega, by omega, by omega, _, c_Contains hlk _, fun h3 => bS_eq ?_, fun h3 => ⟨⟨trivial, trivial, trivial, trivial⟩, l.length - (k + 1), by omega, k + 1, by omega, by omega, rfl, fun j hj hjk => ?_⟩⟩, fun h2 => bS_eq ?_⟩
    · exact (distB_false ha (.inr h3)).symm
    · by_cases e : j = k
      · subst e; exact ⟨h2, h3⟩
      · exact ht j hj (by omega)
    · exact (distB_false ha (.inl h2)).symm
  · symm
    exact distB_iff.2 fun i hi => ht i hi (by omega)

def wok (c : Conf) (x : Waste) : Bool := c.good && (within x.slot 0 c.slots && (within x.first 0 c.slots && (decide ((x.tags.length : Int) ≤ 6) && (bytesB x.tags && (distB c x.chunks &&
  (within x.done 0 (IntKind.i64.wrap (c.size - 1)) && (decide (0 < (x.chunks.length : Int)) || decide (x.done = 0))))))))
theorem c_impl (c : Conf) {x : Waste} (h1 : x.tags.length ≤ M63) (h2 : x.chunks.length ≤ M63) : CallD Try.prog F_impl_WasteOk [confS c, rWaste x] fun r _ => r = bS (wok c x) := by
  refine k_impl_WasteOk ?_
  unfold vc_impl_WasteOk wok
  simp only [nI, n_ints]
  refine ⟨_, c_confOk c, fun g1 => ⟨_, c_within _ _ _, fun g2 => ⟨_, c_within _ _ _, fun g3 => ⟨fun g4 => ⟨_, c_areBytes h1, fun g5 => ⟨_, c_distinct c h2, fun g6 => ⟨_, c_within _ _ _, fun g7 => ⟨fun g8 => bS_eq ?_, fun g8 => ⟨fun g9 => bS_eq ?_, fun g9 => bS_eq ?_⟩⟩,
    fun g7 => bS_eq ?_⟩, fun g6 => bS_eq ?_⟩, fun g5 => bS_eq ?_⟩, fun g4 => bS_eq ?_⟩, fun g3 => bS_eq ?_⟩, fun g2 => bS_eq ?_⟩, fun g1 => bS_eq ?_⟩ <;> simp_all <;> (intros; omega)
theorem c_spec (c : Conf) {x : Waste} (hl1 : x.tags.length ≤ M63) (hl2 : x.chunks.length ≤ M63) : CallD Try.prog F_spec_WasteOk [confS c, rWaste x] fun r _ => r = bS (wok c x) := by
  refine k_spec_WasteOk ?_
  unfold vc_spec_WasteOk wok
  unfold M63 at hl1 hl2
  simp only [nI, n_ints]
  refine ⟨_, c_confOkS c, fun g1 => ⟨_, c_l1In _ _ _, fun g2 => ⟨_, c_l1In _ _ _, fun g3 => ⟨fun g4 => bS_eq ?_, fun g4 => ⟨_, c_l1In _ _ _, fun g7 => ⟨fun g8 => ⟨fun g9 => bS_eq ?_, fun g9 => ?_⟩, fun g8 => ?_⟩, fun g7 => bS_eq ?_⟩⟩, fun g3 => bS_eq ?_⟩, fun g2 => bS_eq ?_⟩, fun g1 => bS_eq ?_⟩
  · have : decide ((x.tags.length : Int) ≤ 6) = false := by simp only [decide_eq_true_eq, decide_eq_false_iff_not] at g4 ⊢; omega
    simp only [this, Bool.false_and, Bool.and_false]
  · have e1 : decide (0 < (x.chunks.length : Int)) = false := by simp only [decide_eq_true_eq, decide_eq_false_iff_not] at g8 ⊢; omega
    have e2 : decide (x.done = 0) = false := by simpa using g9
    simp only [e1, e2, Bool.or_self, Bool.and_false]
  · have e4 : decide ((x.tags.length : Int) ≤ 6) = true := by simp only [decide_eq_true_eq, decide_eq_false_iff_not] at g4 ⊢; omega
    have e8 : (decide (0 < (x.chunks.length : Int)) || decide (x.done = 0)) = true := by
      have : decide (x.done = 0) = true := by simpa using g9
      rw [this, Bool.or_true]
    refine ⟨fun i m => ∃ k : Nat, i = k ∧ k ≤ x.tags.length ∧ m = x.tags.length - k ∧ ∀ i (hi : i < x.tags.length), i < k → within x.tags[i] 0 255 = true, ⟨x.tags.length, 0, rfl, Nat.zero_le _, rfl, fun j hj h => by omega⟩, ?_⟩
    rintro i m ⟨k, rfl, hk, rfl, ht⟩
    simp only [Int.toNat_natCast, Nat.mul_one, decide_eq_true_eq (p := (k : Int) < x.tags.length), decide_eq_false_iff_not (p := (k : Int) < x.tags.length)]
    refine ⟨fun k1 => ?_, fun k1 => ?_⟩
    · have ha : k < x.tags.length := by omega
      simp only [hd_ints ha, getD_eq ha, isI_iV, asI_iV, wrap_id (n := (k : Int) + 1) (by omega) (by omega)]
      refine ⟨by omega, by omega, by simp [ints]; omega, trivial, _, c_l1In _ _ _, fun k2 => ⟨⟨trivial, trivial⟩, x.tags.length - (k + 1), by omega, k + 1, by omega, by omega, rfl, fun j hj hjk => ?_⟩, fun k2 => bS_eq ?_⟩
      · by_cases e : j = k
        · subst e; exact k2
        · exact ht j hj (by omega)
      · simp only [bytesB_false ha k2, Bool.false_and, Bool.and_false]
    · have e5 : bytesB x.tags = true := bytesB_iff.2 fun i hi => ht i hi (by omega)
      clear ht k1 hk
      refine ⟨fun i m => ∃ k : Nat, i = k ∧ k ≤ x.chunks.length ∧ m = x.chunks.length - k ∧ ∀ i (hi : i < x.chunks.length), i < k → within x.chunks[i] 0 (IntKind.i64.wrap (c.chunks - 1)) = true ∧ has (x.chunks.take i) x.chunks[i] = false, ⟨x.chunks.length, 0, rfl, Nat.zero_le _, rfl, fun j hj h => by omega⟩, ?_⟩
      rintro i m ⟨k, rfl, hk, rfl, ht⟩
      simp only [Int.toNat_natCast, decide_eq_true_eq (p := (k : Int) < x.chunks.length), decide_eq_false_iff_not (p := (k : Int) < x.chunks.length), take_ints, Int.toNat_zero, List.drop_zero]
      refine ⟨fun k1 => ?_, fun k1 => bS_eq ?_⟩
      · have ha : k < x.chunks.length := by omega
        have hlk : (x.chunks.take k).length ≤ M63 := by unfold M63; simp; omega
        simp only [hd_ints ha, getD_eq ha, isI_iV, asI_iV, wrap_id (n := (k : Int) + 1) (by omega) (by omega)]
        refine ⟨by omega, by omega, by simp [ints]; omega, trivial, _, c_l1In _ _ _, fun k2 => ⟨by omega, by omega, by omega, by omega, by omega, by simp [ints]; omega, trivial, _, c_has hlk _, fun k3 => bS_eq ?_, fun k3 => ⟨⟨trivial, trivial⟩, x.chunks.length - (k + 1), by omega, k + 1, by omega, by omega, rfl, fun j hj hjk => ?_⟩⟩, fun k2 => bS_eq ?_⟩
        · simp only [distB_false ha (.inr k3), Bool.false_and, Bool.and_false]
        · by_cases e : j = k
          · subst e; exact ⟨k2, k3⟩
          · exact ht j hj (by omega)
        · simp only [distB_false ha (.inl k2), Bool.false_and, Bool.and_false]
      · have e6 : distB c x.chunks = true := distB_iff.2 fun i hi => ht i hi (by omega)
        simp only [g1, g2, g3, e4, e5, e6, g7, e8, Bool.and_self]
  · have e4 : decide ((x.tags.length : Int) ≤ 6) = true := by simp only [decide_eq_true_eq, decide_eq_false_iff_not] at g4 ⊢; omega
    have e8 : (decide (0 < (x.chunks.length : Int)) || decide (x.done = 0)) = true := by
      have : decide (0 < (x.chunks.length : Int)) = true := by simp only [decide_eq_true_eq, decide_eq_false_iff_not] at g8 ⊢; omega
      rw [this, Bool.true_or]
    refine ⟨fun i m => ∃ k : Nat, i = k ∧ k ≤ x.tags.length ∧ m = x.tags.length - k ∧ ∀ i (hi : i < x.tags.length), i < k → within x.tags[i] 0 255 = true, ⟨x.tags.length, 0, rfl, Nat.zero_le _, rfl, fun j hj h => by omega⟩, ?_⟩
    rintro i m ⟨k, rfl, hk, rfl, ht⟩
    simp only [Int.toNat_natCast, Nat.mul_one, decide_eq_true_eq (p := (k : Int) < x.tags.length), decide_eq_false_iff_not (p := (k : Int) < x.tags.length)]
    refine ⟨fun k1 => ?_, fun k1 => ?_⟩
    · have ha : k < x.tags.length := by omega
      simp only [hd_ints ha, getD_eq ha, isI_iV, asI_iV, wrap_id (n := (k : Int) + 1) (by omega) (by omega)]
      refine ⟨by omega, by omega, by simp [ints]; omega, trivial, _, c_l1In _ _ _, fun k2 => ⟨⟨trivial, trivial⟩, x.tags.length - (k + 1), by omega, k + 1, by omega, by omega, rfl, fun j hj hjk => ?_⟩, fun k2 => bS_eq ?_⟩
      · by_cases e : j = k
        · subst e; exact k2
        · exact ht j hj (by omega)
      · simp only [bytesB_false ha k2, Bool.false_and, Bool.and_false]
    · have e5 : bytesB x.tags = true := bytesB_iff.2 fun i hi => ht i hi (by omega)
      clear ht k1 hk
      refine ⟨fun i m => ∃ k : Nat, i = k ∧ k ≤ x.chunks.length ∧ m = x.chunks.length - k ∧ ∀ i (hi : i < x.chunks.length), i < k → within x.chunks[i] 0 (IntKind.i64.wrap (c.chunks - 1)) = true ∧ has (x.chunks.take i) x.chunks[i] = false, ⟨x.chunks.length, 0, rfl, Nat.zero_le _, rfl, fun j hj h => by omega⟩, ?_⟩
      rintro i m ⟨k, rfl, hk, rfl, ht⟩
      simp only [Int.toNat_natCast, decide_eq_true_eq (p := (k : Int) < x.chunks.length), decide_eq_false_iff_not (p := (k : Int) < x.chunks.length), take_ints, Int.toNat_zero, List.drop_zero]
      refine ⟨fun k1 => ?_, fun k1 => bS_eq ?_⟩
      · have ha : k < x.chunks.length := by omega
        have hlk : (x.chunks.take k).length ≤ M63 := by unfold M63; simp; omega
        simp only [hd_ints ha, getD_eq ha, isI_iV, asI_iV, wrap_id (n := (k : Int) + 1) (by omega) (by omega)]
        refine ⟨by omega, by omega, by simp [ints]; omega, trivial, _, c_l1In _ _ _, fun k2 => ⟨by omega, by omega, by omega, by omega, by omega, by simp [ints]; omega, trivial, _, c_has hlk _, fun k3 => bS_eq ?_, fun k3 => ⟨⟨trivial, trivial⟩, x.chunks.length - (k + 1), by omega, k + 1, by omega, by omega, rfl, fun j hj hjk => ?_⟩⟩, fun k2 => bS_eq ?_⟩
        · simp only [distB_false ha (.inr k3), Bool.false_and, Bool.and_false]
        · by_cases e : j = k
          · subst e; exact ⟨k2, k3⟩
          · exact ht j hj (by omega)
        · simp only [distB_false ha (.inl k2), Bool.false_and, Bool.and_false]
      · have e6 : distB c x.chunks = true := distB_iff.2 fun i hi => ht i hi (by omega)
        simp only [g1, g2, g3, e4, e5, e6, g7, e8, Bool.and_self]
  · simp only [g7, Bool.false_and, Bool.and_false]
  · simp only [g3, Bool.false_and, Bool.and_false]
  · simp only [g2, Bool.false_and, Bool.and_false]
  · simp only [g1, Bool.false_and]
theorem c_law (c : Conf) {x : Waste} (hx : x.ok) : CallD Try.prog F_laws_FnExactWasteOk [confS c, rWaste x] fun r _ => r = bS true := by
  refine k_laws_FnExactWasteOk ?_
  unfold vc_laws_FnExactWasteOk
  refine ⟨_, c_szWaste hx, fun g => rfl, fun g => ?_⟩
  have hs : x.sz ≤ 1048576 := Waste.left_sz (by simpa using g)
  have hl1 : x.tags.length ≤ M63 := hx.2.2.1.1
  have hl2 : x.chunks.length ≤ M63 := hx.2.2.2.1.1
  have hc := c_toConf c
  have hw := c_toWaste hs
  have he := c_eqWaste (x := x) (y := x) hs
  refine ⟨_, _, _, _, _, _, hc, _, _, _, _, _, hw, _, c_spec c hl1 hl2, fun g1 => ⟨_, _, _, _, _, hw, _, _, _, _, _, _, hc, _, c_impl c hl1 hl2, fun g2 => ⟨fun g3 => absurd g3 (by simp), fun _ => ⟨_, _, _, _, _, hw, _, he, fun _ => rfl, fun g => absurd g (by simp)⟩⟩, fun g2 => ?_⟩,
    fun g1 => ⟨_, _, _, _, _, hw, _, _, _, _, _, _, hc, _, c_impl c hl1 hl2, fun g2 => ?_, fun g2 => ⟨fun g3 => absurd g3 (by simp), fun _ => ⟨_, _, _, _, _, hw, _, he, fun _ => rfl, fun g => absurd g (by simp)⟩⟩⟩⟩
  · rw [g1] at g2; cases g2
  · rw [g1] at g2; cases g2

theorem lifted (os : Os) (started : os.Started) (H : Type) (enc : TypeId × Value → H) :
    ReturnsInHanded {} Try.checked os F_laws_FnExactWasteOk .any (Rows.fnExactWasteOkSpec.pre6 enc Try.prog Try.f10 Rows.fnExactWasteOkRow.domain false) (Rows.fnExactWasteOkSpec.post enc Try.prog Try.f10 false true false false) := by
  refine returnsInHanded_of_change (C := Try.checked) own started (by kernel_rfl) Try.func10
    (ChangeSpec.witness6 (enc := enc) (C := Try.checked) false ⟨#[], #[.agg #[.int .i64 0, .int .i64 0, .int .i64 0, .int .i64 0, .int .i64 0, .int .i64 0], .agg #[.int .i64 0, .int .i64 0, .slice none 0 0, .slice none 0 0, .int .i64 0]], []⟩ 8 (by kernel_rfl) (by kernel_rfl) (by kernel_rfl) (by kernel_rfl)) ?_
  intro W base args ds gs before hval0 hW hcnd _
  refine law_row (bs := [true, true]) (bt := 4) laidOut shOk rfl (by kernel_rfl) (by kernel_rfl) (by kernel_rfl) (fun ds h => ?_) (by kernel_rfl) (by kernel_rfl) ?_ hW hval0
  · match ds, h with
    | [_, _], _ => rfl
  · have e : Try.f10.params.toList = [58, 34] := by kernel_rfl
    rw [e]
    intro ds1 es1 he1 w1 ds2 es2 he2 w2
    have e58 : sh 58 = some [.int .i64, .int .i64, .int .i64, .int .i64, .int .i64, .int .i64] := by kernel_rfl
    have e34 : sh 34 = some [.int .i64, .int .i64, .sl [.int .i64], .sl [.int .i64], .int .i64] := by kernel_rfl
    cases e58.symm.trans he1
    cases e34.symm.trans he2
    obtain ⟨c, rfl, hc⟩ := conf_inv w1
    obtain ⟨x, rfl, hx⟩ := waste_inv w2
    exact c_law c hx
end WasteOk
theorem fnExactWasteOk_holds : Rows.FnExactWasteOkSaid :=
  OpenClaim.holds_of_wide F_laws_FnExactWasteOk Try.f10 rfl rfl rfl rfl rfl rfl rfl ⟨rfl, rfl, rfl, rfl, rfl⟩ rfl rfl rfl rfl rfl (by kernel_rfl) Try.func10 (by kernel_rfl)
    (of_decide_eq_true (by kernel_rfl)) (by unfold Func.isWrapper; first | (rw [if_pos (by decide +kernel)]; kernel_rfl) | (rw [if_neg (by decide +kernel)]; exact ⟨rfl, rfl⟩))
    (fun os started H enc _ => WasteOk.lifted os started H enc)
#print axioms fnExactWasteOk_holds
end Go.Proofs.Ytbmflnlppnkbaaa
