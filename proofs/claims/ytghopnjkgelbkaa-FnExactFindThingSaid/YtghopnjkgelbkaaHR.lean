/- Contracts of small functions: places and depths of handles. -/
import Derived.Test.YtghopnjkgelbkaaHQ
namespace Go.Proofs.Ytghopnjkgelbkaa
open Go Go.Proofs.Ytghopnjkgelbkaa.DL
set_option maxRecDepth 100000

def placeN (l : List Node) (h : Handle) : Int := if slotB l h.slot then (if (l.getD h.slot.toNat zeroN).st = 1 ∧ (l.getD h.slot.toNat zeroN).gen = h.gen then h.slot else -1) else -1
theorem placeN_I64 {l : List Node} {h : Handle} (hh : h.ok) : I64 (placeN l h) := by
  unfold placeN
  split
  · split
    · exact hh.1
    · unfold I64; omega
  · unfold I64; omega
theorem c_PlaceOf {l : List Node} (hl : l.length ≤ M63) (h : Handle) : CallD Try.prog F_impl_PlaceOf [rNs l, handleS h] fun r _ => r = iS (placeN l h) := by
  refine k_impl_PlaceOf ?_
  unfold vc_impl_PlaceOf placeN
  simp only [nI, n_nodes]
  refine ⟨_, c_isSlot hl h.slot, fun g => ?_, fun g => iS_eq ?_⟩
  · obtain ⟨q1, q2⟩ := slotB_iff.1 g
    have hi : h.slot.toNat < l.length := by omega
    rw [if_pos g, getD_node hi]
    simp only [drop_nodes hi, List.drop_zero, List.drop_succ_cons, hdD_cons, isI_iV, asI_iV]
    refine ⟨q1, q2, by simp, trivial, fun g1 => iS_eq ?_, fun g1 => ⟨q1, q2, by simp, trivial, fun g2 => iS_eq ?_, fun g2 => iS_eq ?_⟩⟩
    · rw [if_neg]; simp at g1; exact fun h' => g1 h'.1
    · rw [if_neg]; simp at g2; exact fun h' => g2 h'.2
    · rw [if_pos]; simp at g1 g2; exact ⟨g1, g2⟩
  · rw [g]; rfl
theorem c_PlaceOfS {l : List Node} (hl : l.length ≤ M63) (h : Handle) : CallD Try.prog F_spec_PlaceOf [rNs l, handleS h] fun r _ => r = iS (placeN l h) := by
  unfold M63 at hl
  refine k_spec_PlaceOf ?_
  unfold vc_spec_PlaceOf placeN
  simp only [nI, n_nodes]
  rw [wrap_id (n := (l.length : Int) - 1) (by omega) (by omega)]
  have e : within h.slot 0 ((l.length : Int) - 1) = slotB l h.slot := by
    rw [Bool.eq_iff_iff, within_iff, slotB_iff]; omega
  have c := c_l1In h.slot 0 ((l.length : Int) - 1)
  rw [e] at c
  refine ⟨_, c, fun g => ?_, fun g => iS_eq ?_⟩
  · obtain ⟨q1, q2⟩ := slotB_iff.1 g
    have hi : h.slot.toNat < l.length := by omega
    rw [if_pos g, getD_node hi]
    simp only [drop_nodes hi, List.drop_zero, List.drop_succ_cons, hdD_cons, isI_iV, asI_iV]
    refine ⟨q1, q2, by simp, trivial, fun g1 => iS_eq ?_, fun g1 => ⟨q1, q2, by simp, trivial, fun g2 => iS_eq ?_, fun g2 => iS_eq ?_⟩⟩
    · rw [if_neg]; simp at g1; exact fun h' => g1 h'.1
    · rw [if_neg]; simp at g2; exact fun h' => g2 h'.2
    · rw [if_pos]; simp at g1 g2; exact ⟨g1, g2⟩
  · rw [g]; rfl
theorem c_DeepOf {l : List Node} (hl : l.length ≤ 1048576) {k : Int} (hk : I64 k) : CallD Try.prog F_impl_DeepOf [rNs l, iS k] fun r _ => r = iS (rise l l.length k).length := by
  refine k_impl_DeepOf ?_
  unfold vc_impl_DeepOf
  exact ⟨_, c_Rise hl hk, iS_eq (by simp only [nI, n_ints])⟩
theorem c_DeepOfS {l : List Node} (hl : l.length ≤ 1048576) {k : Int} (hk : I64 k) : CallD Try.prog F_spec_DeepOf [rNs l, iS k] fun r _ => r = iS (rise l l.length k).length := by
  refine k_spec_DeepOf ?_
  unfold vc_spec_DeepOf
  exact ⟨_, c_RiseS hl hk, iS_eq (by simp only [nI, n_ints])⟩
def walkN (w : World') (h : Handle) : Int := (rise w.l w.l.length (placeN w.l h)).length
end Go.Proofs.Ytghopnjkgelbkaa
