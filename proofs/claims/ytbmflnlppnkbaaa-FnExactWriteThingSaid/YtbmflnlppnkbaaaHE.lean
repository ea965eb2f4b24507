/- Contracts of small functions: lists of bytes, copied, compared, marked. -/
import Derived.Test.YtbmflnlppnkbaaaHC
namespace Go.Proofs.Ytbmflnlppnkbaaa
open Go Go.Proofs.Ytbmflnlppnkbaaa.DL

theorem c_toByteS {l : List Int} (h : l.length ≤ 35184372088832) : CallD Try.prog F_laws_toByteS [rB l] fun r _ => r = oB l := by
  refine k_laws_toByteS ?_
  unfold vc_laws_toByteS
  simp only [nI, n_byts, es_sl, Int.toNat_natCast, Nat.mul_one, zero_byts]
  refine ⟨trivial, by omega, by omega, by omega, by omega, fun es i m => ∃ k : Nat, i = k ∧ k ≤ l.length ∧ m = l.length - k ∧ es = byts (l.take k ++ List.replicate (l.length - k) 0), ⟨l.length, 0, rfl, Nat.zero_le _, rfl, by simp⟩, ?_⟩
  rintro es i m ⟨k, rfl, hk, rfl, rfl⟩
  simp only [Int.toNat_natCast, decide_eq_true_eq, decide_eq_false_iff_not, byts_length, n_byts]
  refine ⟨fun h1 => ?_, fun h1 => ?_⟩
  · have hk' : k < l.length := by omega
    simp only [hd_byts hk', isI_uV, asI_uV, set_byts, set_take_rep l k hk', wrap_id (n := (k : Int) + 1) (by omega) (by omega)]
    refine ⟨by omega, by omega, by simp [byts]; omega, trivial, by omega, by simp; omega, trivial, by simp; omega, trivial, l.length - (k + 1), by omega, k + 1, by omega, by omega, rfl, rfl⟩
  · have : k = l.length := by omega
    subst this
    simp

theorem c_eqByteS {a b : List Int} (ha : a.length ≤ M63) : CallD Try.prog F_laws_eqByteS [rB a, rB b] fun r _ => r = bS (decide (a = b)) := by
  refine k_laws_eqByteS ?_
  unfold vc_laws_eqByteS
  simp only [nI, n_byts]
  refine ⟨fun h1 => bS_eq ?_, fun h1 => ?_⟩
  · have : a.length ≠ b.length := by simp at h1; omega
    have : a ≠ b := fun e => this (by rw [e])
    simp [this]
  · have hl : a.length = b.length := by simp at h1; omega
    refine ⟨fun i m => ∃ k : Nat, i = k ∧ k ≤ a.length ∧ m = a.length - k ∧ a.take k = b.take k, ⟨a.length, 0, rfl, Nat.zero_le _, rfl, rfl⟩, ?_⟩
    rintro i m ⟨k, rfl, hk, rfl, ht⟩
    simp only [Int.toNat_natCast, decide_eq_true_eq, decide_eq_false_iff_not, Nat.mul_one]
    refine ⟨fun h1 => ?_, fun h1 => bS_eq ?_⟩
    · have ha' : k < a.length := by omega
      have hb' : k < b.length := by omega
      unfold M63 at ha
      simp only [hd_byts ha', hd_byts hb', isI_uV, asI_uV, wrap_id (n := (k : Int) + 1) (by omega) (by omega)]
      refine ⟨by omega, by omega, by simp [byts]; omega, trivial, by omega, by omega, by simp [byts]; omega, trivial, fun h2 => bS_eq ?_, fun h2 => ⟨⟨trivial, trivial⟩, a.length - (k + 1), by omega, k + 1, by omega, by omega, rfl, all_take_succ ha' hb' ht (by simpa using h2)⟩⟩
      have : a ≠ b := fun e => by subst e; simp at h2
      simp [this]
    · have : k = a.length := by omega
      subst this
      rw [List.take_length, hl, List.take_length] at ht
      simp [ht]

theorem c_cloneB {l : List Int} (hl : l.length ≤ 1048576) : CallD Try.prog F_slices_Clone_byte [rB l] fun r _ => r = oB l := by
  refine k_slices_Clone_byte ?_
  unfold vc_slices_Clone_byte
  simp only [n_one, List.length_nil, List.nil_append, byts_length]
  refine ⟨fun h => ?_, AllVal_byts l, by omega, by omega, trivial⟩
  show oneC (.own (.sl 1 [])) = oneC (.own (.sl 1 (byts l)))
  rw [h]

/-- The marks that the laws write into bytes. -/
def marksB (b : Int) (k : Nat) : List Int := (List.range k).map fun i : Nat => (b + (i : Int)) % 256
theorem marksB_length (b : Int) (k : Nat) : (marksB b k).length = k := by simp [marksB]
theorem marksB_step {b : Int} {l : List Int} {k : Nat} (h : k < l.length) : (marksB b k ++ l.drop k).set k ((b + k) % 256) = marksB b (k + 1) ++ l.drop (k + 1) := by
  have e : l.drop k = l[k] :: l.drop (k + 1) := List.drop_eq_getElem_cons h
  rw [List.set_append_right _ _ (by rw [marksB_length]; omega), marksB_length, Nat.sub_self, e, List.set_cons_zero]
  simp [marksB, List.range_succ]
theorem c_markB {l : List Int} (hl : l.length ≤ 1048576) : CallD Try.prog F_laws_markByteS [oB l, iS 1] fun r bs => r = iS (1 + l.length) ∧ bs.getD 0 .dead = oB (marksB 1 l.length) := by
  refine k_laws_markByteS ?_
  unfold vc_laws_markByteS
  simp only [nI, es_sl]
  refine ⟨fun es n n1 m => ∃ k : Nat, n1 = k ∧ k ≤ l.length ∧ m = l.length - k ∧ n = 1 + (k : Int) ∧ es = byts (marksB 1 k ++ l.drop k), ⟨_, 0, rfl, Nat.zero_le _, rfl, rfl, by simp [marksB]⟩, ?_⟩
  rintro es n n1 m ⟨k, rfl, hk, rfl, rfl, rfl⟩
  have e0 : (marksB 1 k ++ l.drop k).length = l.length := by simp [marksB_length]; omega
  simp only [n_byts, byts_length, e0, Int.toNat_natCast, Nat.mul_one, decide_eq_true_eq, decide_eq_false_iff_not]
  refine ⟨fun h1 => ?_, fun h1 => ?_⟩
  · have ha : k < l.length := by omega
    refine ⟨by omega, by omega, trivial, by omega, trivial, l.length - (k + 1), by omega, k + 1, by rw [wrap_id] <;> omega, by omega, rfl, by rw [wrap_id] <;> omega, ?_⟩
    rw [set_byts, wrap8, marksB_step ha]
  · have : k = l.length := by omega
    subst this
    simp
theorem c_heldB {b : Nat} (hb : b ≤ 1048576) : CallD Try.prog F_laws_heldByteS [rB (marksB 1 b), iS 1] fun r _ => r = iS (1 + b) := by
  refine k_laws_heldByteS ?_
  unfold vc_laws_heldByteS
  simp only [nI, n_byts, marksB_length]
  refine ⟨fun n n1 m => ∃ k : Nat, n1 = k ∧ k ≤ b ∧ m = b - k ∧ n = 1 + (k : Int), ⟨_, 0, rfl, Nat.zero_le _, rfl, rfl⟩, ?_⟩
  rintro n n1 m ⟨k, rfl, hk, rfl, rfl⟩
  simp only [Int.toNat_natCast, Nat.mul_one, decide_eq_true_eq (p := (k : Int) < b), decide_eq_false_iff_not (p := (k : Int) < b)]
  refine ⟨fun h1 => ?_, fun h1 => iS_eq ?_⟩
  · have ha : k < (marksB 1 b).length := by rw [marksB_length]; omega
    have e : (marksB 1 b)[k] = (1 + (k : Int)) % 256 := by simp [marksB]
    simp only [hd_byts ha, getD_eq ha, isI_uV, asI_uV, e, wrap8]
    refine ⟨by omega, by omega, by simp [byts, marksB]; omega, trivial, fun g => absurd g (by simp), fun _ => ⟨trivial, b - (k + 1), by omega, k + 1, by rw [wrap_id] <;> omega, by omega, rfl, by rw [wrap_id] <;> omega⟩⟩
  · omega
end Go.Proofs.Ytbmflnlppnkbaaa
