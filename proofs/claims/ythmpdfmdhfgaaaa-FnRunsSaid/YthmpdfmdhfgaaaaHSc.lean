/- Contracts of small functions of the laws: a number in a list, a byte of the input; objects apart. -/
import Derived.Test.YthmpdfmdhfgaaaaHSa
import Derived.Test.YthmpdfmdhfgaaaaVHSc
namespace Go.Proofs.Ythmpdfmdhfgaaaa
open Go Go.Proofs.Ythmpdfmdhfgaaaa.DL
set_option maxRecDepth 100000

theorem c_in {l : List Int} (hl : l.length ≤ M63) (b : Int) : CallD Try.prog F_laws_in [rI l, iS b] fun r _ => r = bS (has l b) := by
  refine k_laws_in ?_
  unfold vc_laws_in
  unfold M63 at hl
  simp only [nI, n_ints]
  refine ⟨fun i m => ∃ k : Nat, i = k ∧ k ≤ l.length ∧ m = l.length - k ∧ has (l.take k) b = false, ⟨l.length, 0, rfl, Nat.zero_le _, rfl, rfl⟩, ?_⟩
  rintro i m ⟨k, rfl, hk, rfl, ht⟩
  simp only [Int.toNat_natCast, Nat.mul_one, decide_eq_true_eq (p := (k : Int) < l.length), decide_eq_false_iff_not (p := (k : Int) < l.length)]
  refine ⟨fun h1 => ?_, fun h1 => bS_eq ?_⟩
  · have ha : k < l.length := by omega
    simp only [hd_ints ha, getD_eq ha, isI_iV, asI_iV, wrap_id (n := (k : Int) + 1) (by omega) (by omega)]
    refine ⟨by omega, by omega, by simp [ints]; omega, trivial, fun h2 => bS_eq ?_, fun h2 => ⟨⟨trivial, trivial⟩, l.length - (k + 1), by omega, k + 1, by omega, by omega, rfl, ?_⟩⟩
    · symm
      exact List.any_eq_true.2 ⟨_, List.getElem_mem ha, by simpa [eq_comm] using h2⟩
    · rw [List.take_succ_eq_append_getElem ha]
      simp only [has, List.any_append, List.any_cons, List.any_nil, Bool.or_false] at ht ⊢
      rw [ht, Bool.false_or]
      simpa [eq_comm] using h2
  · have : k = l.length := by omega
    subst this
    rw [List.take_length] at ht
    exact ht.symm
/-- The byte of the input that a law looks at. -/
def atN (a : List Int) (i : Nat) : Int := if i < a.length then a.getD i 0 else (((i : Int) * 31 + a.length * 7)).tmod 256
def allB (l : List Thing) : Bool := (List.range l.length).all fun i => (List.range i).all fun j => apart (l.getD i ⟨0, 0, 0⟩) (l.getD j ⟨0, 0, 0⟩)
theorem allB_iff {l : List Thing} : allB l = true ↔ ∀ i (hi : i < l.length) j (hj : j < i), apart l[i] (l[j]'(by omega)) = true := by
  simp only [allB, List.all_eq_true, List.mem_range, List.getD_eq_getElem?_getD]
  constructor
  · intro h i hi j hj
    have := h i hi j hj
    rwa [List.getElem?_eq_getElem hi, List.getElem?_eq_getElem (by omega)] at this
  · intro h i hi j hj
    rw [List.getElem?_eq_getElem hi, List.getElem?_eq_getElem (by omega)]
    exact h i hi j hj
theorem allB_false {l : List Thing} {i j : Nat} (hi : i < l.length) (hj : j < i) (h : apart l[i] (l[j]'(by omega)) = false) : allB l = false := by
  cases e : allB l with
  | false => rfl
  | true => have := allB_iff.1 e i hi j hj; rw [h] at this; cases this

end Go.Proofs.Ythmpdfmdhfgaaaa
