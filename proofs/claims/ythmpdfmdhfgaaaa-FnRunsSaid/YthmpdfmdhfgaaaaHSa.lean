/- Contracts of the comparisons that the laws make. -/
import Derived.Test.YthmpdfmdhfgaaaaHDa
import Derived.Test.YthmpdfmdhfgaaaaVHSa
namespace Go.Proofs.Ythmpdfmdhfgaaaa
open Go Go.Proofs.Ythmpdfmdhfgaaaa.DL
set_option maxRecDepth 100000

theorem c_big {v : Value} {a : List Int} : CallD Try.prog F_laws_big [codeS v a] fun r _ => r = bS (decide (1048576 < (a.length : Int))) := by
  refine k_laws_big ?_
  unfold vc_laws_big
  simp only [nI, n_byts]
  exact ⟨fun h => bS_eq h.symm, fun h => bS_eq h.symm⟩
theorem c_sameInts {a b : List Int} (ha : a.length ≤ M63) : CallD Try.prog F_laws_sameInts [rI a, rI b] fun r _ => r = bS (decide (a = b)) := by
  refine k_laws_sameInts ?_
  unfold vc_laws_sameInts
  simp only [nI, n_ints]
  refine ⟨fun h1 => bS_eq ?_, fun h1 => ?_⟩
  · have : a.length ≠ b.length := by simp at h1; omega
    have : a ≠ b := fun e => this (by rw [e])
    simp [this]
  · have hl : a.length = b.length := by simp at h1; omega
    refine ⟨fun i m => ∃ k : Nat, i = k ∧ k ≤ a.length ∧ m = a.length - k ∧ a.take k = b.take k, ⟨a.length, 0, rfl, Nat.zero_le _, rfl, rfl⟩, ?_⟩
    rintro i m ⟨k, rfl, hk, rfl, ht⟩
    simp only [Int.toNat_natCast, decide_eq_true_eq, decide_eq_false_iff_not, Nat.mul_one]
    refine ⟨fun h1 => ?_, fun h1 => bS_eq ?_⟩
    · have ha' : k < a.length := by omega
      have hb' : k < b.length := by omega
      unfold M63 at ha
      simp only [hd_ints ha', hd_ints hb', isI_iV, asI_iV, wrap_id (n := (k : Int) + 1) (by omega) (by omega)]
      refine ⟨by omega, by omega, by simp [ints]; omega, trivial, by omega, by omega, by simp [ints]; omega, trivial, fun h2 => bS_eq ?_, fun h2 => ⟨⟨trivial, trivial⟩, a.length - (k + 1), by omega, k + 1, by omega, by omega, rfl, all_take_succ ha' hb' ht (by simpa using h2)⟩⟩
      have : a ≠ b := fun e => by subst e; simp at h2
      simp [this]
    · have : k = a.length := by omega
      subst this
      rw [List.take_length, hl, List.take_length] at ht
      simp [ht]
theorem c_same {a b : List Int} (ha : a.length ≤ M63) : CallD Try.prog F_laws_same [rB a, rB b] fun r _ => r = bS (decide (a = b)) := by
  refine k_laws_same ?_
  unfold vc_laws_same
  simp only [nI, n_byts]
  refine ⟨fun h1 => bS_eq ?_, fun h1 => ?_⟩
  · have : a.length ≠ b.length := by simp at h1; omega
    have : a ≠ b := fun e => this (by rw [e])
    simp [this]
  · have hl : a.length = b.length := by simp at h1; omega
    refine ⟨fun i m => ∃ k : Nat, i = k ∧ k ≤ a.length ∧ m = a.length - k ∧ a.take k = b.take k, ⟨a.length, 0, rfl, Nat.zero_le _, rfl, rfl⟩, ?_⟩
    rintro i m ⟨k, rfl, hk, rfl, ht⟩
    simp only [Int.toNat_natCast, decide_eq_true_eq, decide_eq_false_iff_not, Nat.mul_one]
    refine ⟨fun h1 => ?_, fun h1 => bS_eq ?_⟩
    · have ha' : k < a.length := by omega
      have hb' : k < b.length := by omega
      unfold M63 at ha
      simp only [hd_byts ha', hd_byts hb', isI_uV, asI_uV, wrap_id (n := (k : Int) + 1) (by omega) (by omega)]
      refine ⟨by omega, by omega, by simp [byts]; omega, trivial, by omega, by omega, by simp [byts]; omega, trivial, fun h2 => bS_eq ?_, fun h2 => ⟨⟨trivial, trivial⟩, a.length - (k + 1), by omega, k + 1, by omega, by omega, rfl, all_take_succ ha' hb' ht (by simpa using h2)⟩⟩
      have : a ≠ b := fun e => by subst e; simp at h2
      simp [this]
    · have : k = a.length := by omega
      subst this
      rw [List.take_length, hl, List.take_length] at ht
      simp [ht]
end Go.Proofs.Ythmpdfmdhfgaaaa
