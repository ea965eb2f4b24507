/- Contracts of small functions: bounds, lists searched, the configuration's conditions. -/
import Derived.Test.YtckcehmggdnliaaHB
namespace Go.Proofs.Ytckcehmggdnliaa
open Go Go.Proofs.Ytckcehmggdnliaa.DL

def within (a b c : Int) : Bool := decide (b ≤ a) && decide (a ≤ c)
theorem c_within (a b c : Int) : CallD Try.prog F_impl_within [iS a, iS b, iS c] fun r _ => r = bS (within a b c) := by
  refine k_impl_within ?_
  unfold vc_impl_within within
  refine ⟨fun h => ⟨fun h' => bS_eq ?_, fun h' => bS_eq ?_⟩, fun h => bS_eq ?_⟩ <;> simp_all <;> omega
theorem c_l1In (a b c : Int) : CallD Try.prog F_spec_l1In [iS a, iS b, iS c] fun r _ => r = bS (within a b c) := by
  refine k_spec_l1In ?_
  unfold vc_spec_l1In within
  refine ⟨fun h => ⟨fun h' => bS_eq ?_, fun h' => bS_eq ?_⟩, fun h => bS_eq ?_⟩ <;> simp_all <;> omega
theorem c_toConf (c : Conf) : CallD Try.prog F_laws_toConf [confS c] fun r _ => r = confS c := k_laws_toConf rfl

theorem c_IndexFI {l : List Int} (hl : l.length ≤ M63) {g : FuncId} {caps : List (List DV)} {p : Int → Bool} (hg : ∀ t ∈ l, CallD Try.prog g (iS t :: caps.map SV.rptr) fun r _ => r = bS (p t)) :
    CallD Try.prog F_slices_IndexFunc_int [rI l, .cloR g caps] fun r _ => r = iS (idx p l) := by
  refine k_slices_IndexFunc_int ?_
  unfold vc_slices_IndexFunc_int
  unfold M63 at hl
  simp only [nI, n_ints]
  refine ⟨fun i m => ∃ k : Nat, i = k ∧ k ≤ l.length ∧ m = l.length - k ∧ ∀ j (hj : j < l.length), j < k → p l[j] = false, ⟨l.length, 0, rfl, Nat.zero_le _, rfl, fun j hj h => by omega⟩, ?_⟩
  rintro i m ⟨k, rfl, hk, rfl, ht⟩
  simp only [Int.toNat_natCast, decide_eq_true_eq, decide_eq_false_iff_not, Nat.mul_one]
  refine ⟨fun h1 => ?_, fun h1 => iS_eq ?_⟩
  · have ha' : k < l.length := by omega
    simp only [hd_ints ha', getD_eq ha', isI_iV, asI_iV, wrap_id (n := (k : Int) + 1) (by omega) (by omega)]
    refine ⟨by omega, by omega, by simp [ints]; omega, trivial, _, hg l[k] (List.getElem_mem ha'), fun h2 => iS_eq ?_, fun h2 => ⟨⟨trivial, trivial, trivial⟩, l.length - (k + 1), by omega, k + 1, by omega, by omega, rfl, fun j hj hjk => ?_⟩⟩
    · exact (idx_at ha' h2 fun j hj => ht j (by omega) hj).symm
    · by_cases e : j = k
      · subst e; exact h2
      · exact ht j hj (by omega)
  · exact (idx_none fun j hj => ht j hj (by omega)).symm
theorem c_ContainsFI {l : List Int} (hl : l.length ≤ M63) {g : FuncId} {caps : List (List DV)} {p : Int → Bool} (hg : ∀ t ∈ l, CallD Try.prog g (iS t :: caps.map SV.rptr) fun r _ => r = bS (p t)) :
    CallD Try.prog F_slices_ContainsFunc_int [rI l, .cloR g caps] fun r _ => r = bS (l.any p) := by
  refine k_slices_ContainsFunc_int ?_
  unfold vc_slices_ContainsFunc_int
  refine ⟨_, c_IndexFI hl hg, fun h => bS_eq ?_, fun h => bS_eq ?_⟩
  · rw [← idx_any, h]
  · rw [← idx_any, h]
def has (l : List Int) (b : Int) : Bool := l.any fun y => decide (b = y)
theorem c_Index {l : List Int} (hl : l.length ≤ M63) (b : Int) : CallD Try.prog F_slices_Index_int [rI l, iS b] fun r _ => r = iS (idx (fun y => decide (b = y)) l) := by
  refine k_slices_Index_int ?_
  unfold vc_slices_Index_int
  unfold M63 at hl
  simp only [nI, n_ints]
  refine ⟨fun i m => ∃ k : Nat, i = k ∧ k ≤ l.length ∧ m = l.length - k ∧ ∀ j (hj : j < l.length), j < k → decide (b = l[j]) = false, ⟨l.length, 0, rfl, Nat.zero_le _, rfl, fun j hj h => by omega⟩, ?_⟩
  rintro i m ⟨k, rfl, hk, rfl, ht⟩
  simp only [Int.toNat_natCast, Nat.mul_one, decide_eq_true_eq (p := (k : Int) < l.length), decide_eq_false_iff_not (p := (k : Int) < l.length)]
  refine ⟨fun h1 => ?_, fun h1 => iS_eq ?_⟩
  · have ha' : k < l.length := by omega
    simp only [hd_ints ha', getD_eq ha', isI_iV, asI_iV, wrap_id (n := (k : Int) + 1) (by omega) (by omega)]
    refine ⟨by omega, by omega, by simp [ints]; omega, trivial, fun h2 => iS_eq ?_, fun h2 => ⟨⟨trivial, trivial, trivial⟩, l.length - (k + 1), by omega, k + 1, by omega, by omega, rfl, fun j hj hjk => ?_⟩⟩
    · exact (idx_at (p := fun y => decide (b = y)) ha' h2 fun j hj => ht j (by omega) hj).symm
    · by_cases e : j = k
      · subst e; exact h2
      · exact ht j hj (by omega)
  · exact (idx_none (p := fun y => decide (b = y)) fun j hj => ht j hj (by omega)).symm
theorem c_Contains {l : List Int} (hl : l.length ≤ M63) (b : Int) : CallD Try.prog F_slices_Contains_int [rI l, iS b] fun r _ => r = bS (has l b) := by
  refine k_slices_Contains_int ?_
  unfold vc_slices_Contains_int
  refine ⟨_, c_Index hl b, fun h => bS_eq ?_, fun h => bS_eq ?_⟩
  · rw [has, ← idx_any, h]
  · rw [has, ← idx_any, h]
theorem has_at {l : List Int} {b : Int} {k : Nat} (hk : k < l.length) (h : l[k] = b) : has l b = true := List.any_eq_true.2 ⟨_, List.getElem_mem hk, by simp [h]⟩
theorem has_not {l : List Int} {b : Int} (h : ∀ j (hj : j < l.length), l[j] ≠ b) : has l b = false := by
  refine List.any_eq_false.2 fun x hx => ?_
  obtain ⟨j, hj, rfl⟩ := List.mem_iff_getElem.1 hx
  have := h j hj
  simp only [decide_eq_true_eq]
  exact fun e => this e.symm
theorem c_has {l : List Int} (hl : l.length ≤ M63) (b : Int) : CallD Try.prog F_spec_l7Has [rI l, iS b] fun r _ => r = bS (has l b) := by
  refine k_spec_l7Has ?_
  unfold vc_spec_l7Has
  unfold M63 at hl
  simp only [nI, n_ints]
  refine ⟨fun i m => ∃ k : Nat, i = k ∧ k ≤ l.length ∧ m = l.length - k ∧ ∀ j (hj : j < l.length), j < k → l[j] ≠ b, ⟨l.length, 0, rfl, Nat.zero_le _, rfl, fun j hj h => by omega⟩, ?_⟩
  rintro i m ⟨k, rfl, hk, rfl, ht⟩
  simp only [Int.toNat_natCast, decide_eq_true_eq, decide_eq_false_iff_not, Nat.mul_one]
  refine ⟨fun h1 => ?_, fun h1 => bS_eq ?_⟩
  · have ha' : k < l.length := by omega
    simp only [hd_ints ha', getD_eq ha', isI_iV, asI_iV, wrap_id (n := (k : Int) + 1) (by omega) (by omega)]
    refine ⟨by omega, by omega, by simp [ints]; omega, trivial, fun h2 => bS_eq ?_, fun h2 => ⟨⟨trivial, trivial⟩, l.length - (k + 1), by omega, k + 1, by omega, by omega, rfl, fun j hj hjk => ?_⟩⟩
    · exact (has_at ha' h2).symm
    · by_cases e : j = k
      · subst e; exact h2
      · exact ht j hj (by omega)
  · exact (has_not fun j hj => ht j hj (by omega)).symm

def Conf.good (c : Conf) : Bool := within c.chunks 2 12 && (within c.size 8 16 && (within c.slots 2 8 && (within c.tax 1 8 && (within c.slice 1 16 && within c.gens 1 4))))
theorem c_confOk (c : Conf) : CallD Try.prog F_impl_ConfOk [confS c] fun r _ => r = bS c.good := by
  refine k_impl_ConfOk ?_
  unfold vc_impl_ConfOk Conf.good
  refine ⟨_, c_within _ _ _, fun h1 => ⟨_, c_within _ _ _, fun h2 => ⟨_, c_within _ _ _, fun h3 => ⟨_, c_within _ _ _, fun h4 => ⟨_, c_within _ _ _, fun h5 => ⟨_, c_within _ _ _, fun h6 => bS_eq ?_, fun h6 => bS_eq ?_⟩, fun h5 => bS_eq ?_⟩, fun h4 => bS_eq ?_⟩, fun h3 => bS_eq ?_⟩, fun h2 => bS_eq ?_⟩, fun h1 => bS_eq ?_⟩ <;> simp [*]
theorem c_confOkS (c : Conf) : CallD Try.prog F_spec_ConfOk [confS c] fun r _ => r = bS c.good := by
  refine k_spec_ConfOk ?_
  unfold vc_spec_ConfOk Conf.good
  refine ⟨_, c_l1In _ _ _, fun h1 => ⟨_, c_l1In _ _ _, fun h2 => ⟨_, c_l1In _ _ _, fun h3 => ⟨_, c_l1In _ _ _, fun h4 => ⟨_, c_l1In _ _ _, fun h5 => ⟨_, c_l1In _ _ _, fun h6 => bS_eq ?_, fun h6 => bS_eq ?_⟩, fun h5 => bS_eq ?_⟩, fun h4 => bS_eq ?_⟩, fun h3 => bS_eq ?_⟩, fun h2 => bS_eq ?_⟩, fun h1 => bS_eq ?_⟩ <;> simp [*]
end Go.Proofs.Ytckcehmggdnliaa
