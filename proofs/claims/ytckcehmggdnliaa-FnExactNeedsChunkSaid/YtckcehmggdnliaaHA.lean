/- Contracts of small functions: copies, comparisons and sizes of lists of integers and of remains. -/
import Derived.Test.YtckcehmggdnliaaV0
import Derived.Test.YtckcehmggdnliaaV1
import Derived.Test.YtckcehmggdnliaaV2
import Derived.Test.YtckcehmggdnliaaV3
import Derived.Test.YtckcehmggdnliaaV4
import Derived.Test.YtckcehmggdnliaaD2
namespace Go.Proofs.Ytckcehmggdnliaa
open Go Go.Proofs.Ytckcehmggdnliaa.DL

theorem set_take_rep (l : List Int) (k : Nat) (h : k < l.length) : (l.take k ++ List.replicate (l.length - k) 0).set k (l.getD k 0) = l.take (k + 1) ++ List.replicate (l.length - (k + 1)) 0 := by
  apply List.ext_getElem
  · simp; omega
  · intro i h1 h2
    simp only [List.length_set, List.length_append, List.length_take, List.length_replicate] at h1
    rw [List.getElem_set]
    split
    · rename_i e; subst e
      rw [List.getElem_append_left (by simp; omega)]
      simp [List.getD_eq_getElem?_getD, h]
    · rename_i e
      by_cases hi : i < k
      · rw [List.getElem_append_left (by simp; omega), List.getElem_append_left (by simp; omega)]
        simp
      · rw [List.getElem_append_right (by simp; omega), List.getElem_append_right (by simp; omega)]
        simp

theorem c_toIntS {l : List Int} (h : l.length ≤ 35184372088832) : CallD Try.prog F_laws_toIntS [rI l] fun r _ => r = oI l := by
  refine k_laws_toIntS ?_
  unfold vc_laws_toIntS
  simp only [nI, n_ints, es_sl, Int.toNat_natCast, Nat.mul_one, zero_ints]
  refine ⟨trivial, by omega, by omega, by omega, by omega, fun es i m => ∃ k : Nat, i = k ∧ k ≤ l.length ∧ m = l.length - k ∧ es = ints (l.take k ++ List.replicate (l.length - k) 0), ⟨l.length, 0, rfl, Nat.zero_le _, rfl, by simp⟩, ?_⟩
  rintro es i m ⟨k, rfl, hk, rfl, rfl⟩
  simp only [Int.toNat_natCast, decide_eq_true_eq, decide_eq_false_iff_not, ints_length, n_ints]
  refine ⟨fun h1 => ?_, fun h1 => ?_⟩
  · have hk' : k < l.length := by omega
    simp only [hd_ints hk', isI_iV, asI_iV, set_ints, set_take_rep l k hk', wrap_id (n := (k : Int) + 1) (by omega) (by omega)]
    refine ⟨by omega, by omega, by simp [ints]; omega, trivial, by omega, by simp; omega, trivial, by simp; omega, trivial, l.length - (k + 1), by omega, k + 1, by omega, by omega, rfl, rfl⟩
  · have : k = l.length := by omega
    subst this
    simp

theorem all_take_succ {a b : List Int} {k : Nat} (ha : k < a.length) (hb : k < b.length) (h : a.take k = b.take k) (e : a.getD k 0 = b.getD k 0) : a.take (k + 1) = b.take (k + 1) := by
  rw [List.take_succ_eq_append_getElem ha, List.take_succ_eq_append_getElem hb, h]
  simp only [List.getD_eq_getElem?_getD, List.getElem?_eq_getElem ha, List.getElem?_eq_getElem hb, Option.getD_some] at e
  rw [e]

theorem c_eqIntS {a b : List Int} (ha : a.length ≤ M63) : CallD Try.prog F_laws_eqIntS [rI a, rI b] fun r _ => r = bS (decide (a = b)) := by
  refine k_laws_eqIntS ?_
  unfold vc_laws_eqIntS
  simp only [nI, n_ints]
  refine ⟨fun h1 => bS_eq ?_, fun h1 => ?_⟩
  · have : a.length ≠ b.length := by simp at h1; omega
    have : a ≠ b := fun e => this (by rw [e])
    simp [this]
  · have hl : a.length = b.length := by simp at h1; omega
    refine ⟨fun i m => ∃ k : Nat, i = k ∧ k ≤ a.length ∧ m = a.length - k ∧ a.take k = b.take k, ⟨a.length, 0, rfl, Nat.zero_le _, rfl, rfl⟩, ?_⟩
    rintro i m ⟨k, rfl, hk, rfl, ht⟩
    simp only [Int.toNat_natCast, decide_eq_true_eq, decide_eq_false_iff_not, Nat.mul_one]
    refine ⟨fun h1 => ?_, fun h1 => bS_eq ?_⟩
    · have ha' : k < a.length := by omega
      have hb' : k < b.length := by omega
      unfold M63 at ha
      simp only [hd_ints ha', hd_ints hb', isI_iV, asI_iV, wrap_id (n := (k : Int) + 1) (by omega) (by omega)]
      refine ⟨by omega, by omega, by simp [ints]; omega, trivial, by omega, by omega, by simp [ints]; omega, trivial, fun h2 => bS_eq ?_, fun h2 => ⟨⟨trivial, trivial⟩, a.length - (k + 1), by omega, k + 1, by omega, by omega, rfl, all_take_succ ha' hb' ht (by simpa using h2)⟩⟩
      have : a ≠ b := fun e => by subst e; simp at h2
      simp [this]
    · have : k = a.length := by omega
      subst this
      rw [List.take_length, hl, List.take_length] at ht
      simp [ht]

theorem c_szIntS {l : List Int} {n : Int} (hl : l.length ≤ M63) (h0 : 0 ≤ n) (hn : n ≤ 1048576) : CallD Try.prog F_laws_szIntS [rI l, iS n] fun r _ => r = iS (if (l.length : Int) ≤ n then n - l.length else -1) := by
  refine k_laws_szIntS ?_
  unfold vc_laws_szIntS
  unfold M63 at hl
  simp only [nI, n_ints, wrap_id (n := n - l.length) (by omega) (by omega), decide_eq_true_eq, decide_eq_false_iff_not]
  refine ⟨fun h1 => iS_eq ?_, fun h1 => iS_eq ?_⟩
  · rw [if_neg (by omega)]
  · rw [if_pos (by omega)]

def Waste.sz (x : Waste) : Int := x.tags.length + x.chunks.length
def Waste.left (x : Waste) : Int := if (x.tags.length : Int) ≤ 1048576 then (if (x.chunks.length : Int) ≤ 1048576 - x.tags.length then 1048576 - x.tags.length - x.chunks.length else -1) else -1
theorem Waste.left_sz {x : Waste} (h : ¬ x.left < 0) : x.sz ≤ 1048576 := by
  unfold Waste.left at h
  unfold Waste.sz
  split at h
  · split at h <;> omega
  · omega
theorem Waste.eq_iff (x y : Waste) : x = y ↔ x.slot = y.slot ∧ x.first = y.first ∧ x.tags = y.tags ∧ x.chunks = y.chunks ∧ x.done = y.done := by
  constructor
  · rintro rfl; exact ⟨rfl, rfl, rfl, rfl, rfl⟩
  · cases x; cases y; rintro ⟨h1, h2, h3, h4, h5⟩; simp_all
instance : DecidableEq Waste := fun x y => decidable_of_iff _ (Waste.eq_iff x y).symm
end Go.Proofs.Ytckcehmggdnliaa
