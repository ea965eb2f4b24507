/- Contracts of small functions of the laws: a number in a list, a byte of the input; objects apart. -/
import Derived.Test.YthmpdfmdhfgaaaaHSa
import Derived.Test.YthmpdfmdhfgaaaaVHSc
namespace Go.Proofs.Ythmpdfmdhfgaaaa
open Go Go.Proofs.Ythmpdfmdhfgaaaa.DL
set_option maxRecDepth 100000

theorem c_in {l : List Int} (hl : l.length ≤ M63) (b : Int) : CallD Try.prog F_laws_in [rI l, iS b] fun r _ => r = bS (has l b) := by
  refine k_laws_in ?_
  unfold vc_laws_in
  unfold M63 at hl
  simp only [nI, n_ints]
  refine ⟨fun i m => ∃ k : Nat, i = k ∧ k ≤ l.length ∧ m = l.length - k ∧ has (l.take k) b = false, ⟨l.length, 0, rfl, Nat.zero_le _, rfl, rfl⟩, ?_⟩
  rintro i m ⟨k, rfl, hk, rfl, ht⟩
  simp only [Int.toNat_natCast, Nat.mul_one, decide_eq_true_eq (p := (k : Int) < l.length), decide_eq_false_iff_not (p := (k : Int) < l.length)]
  refine ⟨fun h1 => ?_, fun h1 => bS_eq ?_⟩
  · have ha : k < l.length := by omega
    simp only [hd_ints ha, getD_eq ha, isI_iV, asI_iV, wrap_id (n := (k : Int) + 1) (by omega) (by omega)]
    refine ⟨by omega, by omega, by simp [ints]; omega, trivial, fun h2 => bS_eq ?_, fun h2 => ⟨⟨trivial, trivial⟩, l.length - (k + 1), by omega, k + 1, by omega, by omega, rfl, ?_⟩⟩
    · symm
      exact List.any_eq_true.2 ⟨_, List.getElem_mem ha, by simpa [eq_comm] using h2⟩
    · rw [List.take_succ_eq_append_getElem ha]
      simp only [has, List.any_append, List.any_cons, List.any_nil, Bool.or_false] at ht ⊢
      rw [ht, Bool.false_or]
      simpa [eq_comm] using h2
  · have : k = l.length := by omega
    subst this
    rw [List.take_length] at ht
    exact ht.symm
/-- The byte of the input that a law looks at. -/
def atN (a : List Int) (i : Nat) : Int := if i < a.length then a.getD i 0 else (((i : Int) * 31 + a.length * 7)).tmod 256
theorem c_at {v : Value} {a : List Int} (ha : a.length ≤ 1048576) (hb : ∀ x ∈ a, 0 ≤ x ∧ x ≤ 255) {i : Nat} (hi : i ≤ 1048576) : (0 ≤ atN a i ∧ atN a i ≤ 255) ∧ CallD Try.prog F_laws_at [codeS v a, iS i] fun r _ => r = iS (atN a i) := by
  unfold atN
  by_cases h : i < a.length
  · rw [if_pos h, getD_eq h]
    have hx := hb _ (List.getElem_mem h)
    refine ⟨hx, k_laws_at ?_⟩
    unfold vc_laws_at
    simp only [nI, n_byts, Int.toNat_natCast, Nat.mul_one, hd_byts h, getD_eq h, isI_uV, asI_uV]
    refine ⟨fun _ => ⟨by omega, by omega, by simp [byts]; omega, trivial, ?_⟩, fun g => absurd (of_decide_eq_false g) (by omega)⟩
    rw [wrap_id (by omega) (by omega)]
  · rw [if_neg h]
    obtain ⟨t1, t2⟩ := tmod_in (x := (i : Int) * 31 + a.length * 7) (by omega) (show (0 : Int) < 256 by omega)
    refine ⟨by omega, k_laws_at ?_⟩
    unfold vc_laws_at
    simp only [nI, n_byts]
    refine ⟨fun g => absurd (of_decide_eq_true g) (by omega), fun _ => ⟨by omega, ?_⟩⟩
    rw [wrap_id (n := (i : Int) * 31) (by omega) (by omega), wrap_id (n := (a.length : Int) * 7) (by omega) (by omega), wrap_id (by omega) (by omega)]
namespace AllApart
def allB (l : List Thing) : Bool := (List.range l.length).all fun i => (List.range i).all fun j => apart (l.getD i ⟨0, 0, 0⟩) (l.getD j ⟨0, 0, 0⟩)
theorem allB_iff {l : List Thing} : allB l = true ↔ ∀ i (hi : i < l.length) j (hj : j < i), apart l[i] (l[j]'(by omega)) = true := by
  simp only [allB, List.all_eq_true, List.mem_range, List.getD_eq_getElem?_getD]
  constructor
  · intro h i hi j hj
    have := h i hi j hj
    rwa [List.getElem?_eq_getElem hi, List.getElem?_eq_getElem (by omega)] at this
  · intro h i hi j hj
    rw [List.getElem?_eq_getElem hi, List.getElem?_eq_getElem (by omega)]
    exact h i hi j hj
theorem allB_false {l : List Thing} {i j : Nat} (hi : i < l.length) (hj : j < i) (h : apart l[i] (l[j]'(by omega)) = false) : allB l = false := by
  cases e : allB l with
  | false => rfl
  | true => have := allB_iff.1 e i hi j hj; rw [h] at this; cases this

theorem c_fn {u t : Thing} (hu : u.ok) (ht : t.ok) : CallD Try.prog F_impl_AllApart_1 [thingS u, .rptr t.enc] fun r _ => r = bS (!apart u t) := by
  refine k_impl_AllApart_1 ?_
  unfold vc_impl_AllApart_1
  simp only [hdD_cons, asI_iV, isI_iV]
  refine ⟨by simp, trivial, trivial, trivial, _, c_apart hu ht, fun h => bS_eq ?_, fun h => bS_eq ?_⟩
  · rw [h]
  · rw [h]
theorem c_impl {l : List Thing} (hl : l.length ≤ 1048576) (hok : ∀ t ∈ l, t.ok) : CallD Try.prog F_impl_AllApart [rTh l] fun r _ => r = bS (allB l) := by
  refine k_impl_AllApart ?_
  unfold vc_impl_AllApart
  simp only [nI, n_things]
  refine ⟨fun i m => ∃ k : Nat, i = k ∧ k ≤ l.length ∧ m = l.length - k ∧ ∀ i (hi : i < l.length) j (hj : j < i), i < k → apart l[i] (l[j]'(by omega)) = true, ⟨l.length, 0, rfl, Nat.zero_le _, rfl, fun i hi j hj h => by omega⟩, ?_⟩
  rintro i m ⟨k, rfl, hk, rfl, ht⟩
  simp only [Int.toNat_natCast, decide_eq_true_eq, decide_eq_false_iff_not, take_things, drop0]
  refine ⟨fun h1 => ?_, fun h1 => bS_eq ?_⟩
  · have ha : k < l.length := by omega
    have hlk : (l.take k).length ≤ M63 := by unfold M63; simp; omega
    simp only [drop_things ha, hdD_cons, List.tail_cons, isI_iV, asI_iV, wrap_id (n := (k : Int) + 1) (by omega) (by omega)]
    refine ⟨by omega, by omega, by simp, trivial, trivial, trivial, by omega, by omega, by omega, _, c_ContainsThing (p := fun u => !apart u l[k]) hlk (fun u hu => c_fn (hok u (List.mem_of_mem_take hu)) (hok _ (List.getElem_mem ha))),
      fun h2 => bS_eq ?_, fun h2 => ⟨⟨trivial, trivial, trivial⟩, l.length - (k + 1), by omega, k + 1, by omega, by omega, rfl, fun i hi j hj hik => ?_⟩⟩
    · obtain ⟨u, hu, h3⟩ := List.any_eq_true.1 h2
      obtain ⟨j, hj, rfl⟩ := List.mem_iff_getElem.1 hu
      simp only [List.length_take] at hj
      symm
      refine allB_false ha (j := j) (by omega) ?_
      rw [apart_symm]
      simpa using h3
    · by_cases e : i = k
      · subst e
        have := List.any_eq_false.1 h2 l[j] (List.mem_iff_getElem.2 ⟨j, by simp; omega, by simp⟩)
        rw [apart_symm]
        simpa using this
      · exact ht i hi j hj (by omega)
  · symm
    exact allB_iff.2 fun i hi j hj => ht i hi j hj (by omega)
theorem c_spec {l : List Thing} (hl : l.length ≤ 1048576) (hok : ∀ t ∈ l, t.ok) : CallD Try.prog F_spec_AllApart [rTh l] fun r _ => r = bS (allB l) := by
  refine k_spec_AllApart ?_
  unfold vc_spec_AllApart
  simp only [nI, n_things]
  refine ⟨fun i m => ∃ k : Nat, i = k ∧ k ≤ l.length ∧ m = l.length - k ∧ ∀ i (hi : i < l.length) j (hj : j < i), i < k → apart l[i] (l[j]'(by omega)) = true, ⟨l.length, 0, rfl, Nat.zero_le _, rfl, fun i hi j hj h => by omega⟩, ?_⟩
  rintro i m ⟨k, rfl, hk, rfl, ht⟩
  simp only [Int.toNat_natCast, decide_eq_true_eq, decide_eq_false_iff_not]
  refine ⟨fun h1 => ?_, fun h1 => bS_eq ?_⟩
  · have ha : k < l.length := by omega
    refine ⟨fun i m => ∃ n : Nat, i = n ∧ n ≤ k ∧ m = k - n ∧ ∀ j (hj : j < k), j < n → apart l[k] (l[j]'(by omega)) = true, ⟨k, 0, rfl, Nat.zero_le _, rfl, fun j hj h => by omega⟩, ?_⟩
    rintro i m ⟨n, rfl, hn, rfl, hs⟩
    simp only [Int.toNat_natCast]
    refine ⟨fun h2 => ?_, fun h2 => ⟨trivial, l.length - (k + 1), by omega, k + 1, by rw [wrap_id] <;> omega, by omega, rfl, fun i hi j hj hik => ?_⟩⟩
    · have hb : n < l.length := by omega
      simp only [drop_things ha, drop_things hb, hdD_cons, List.tail_cons, isI_iV, asI_iV, wrap_id (n := (n : Int) + 1) (by omega) (by omega)]
      refine ⟨by omega, by omega, by simp, trivial, trivial, trivial, by omega, by omega, by simp, trivial, trivial, trivial, _, c_apartS (hok _ (List.getElem_mem ha)) (hok _ (List.getElem_mem hb)),
        fun h3 => ⟨⟨trivial, trivial⟩, k - (n + 1), by omega, n + 1, by omega, by omega, rfl, fun j hj hjn => ?_⟩, fun h3 => bS_eq ?_⟩
      · by_cases e : j = n
        · subst e; exact h3
        · exact hs j hj (by omega)
      · exact (allB_false ha (j := n) (by omega) h3).symm
    · by_cases e : i = k
      · subst e; exact hs j hj (by omega)
      · exact ht i hi j hj (by omega)
  · symm
    exact allB_iff.2 fun i hi j hj => ht i hi j hj (by omega)
end AllApart

end Go.Proofs.Ythmpdfmdhfgaaaa
