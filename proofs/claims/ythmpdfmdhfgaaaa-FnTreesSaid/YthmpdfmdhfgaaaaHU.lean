/- Contracts of small functions: children; the steps that remains need. -/
import Derived.Test.YthmpdfmdhfgaaaaHRS
import Derived.Test.YthmpdfmdhfgaaaaHP
import Derived.Test.YthmpdfmdhfgaaaaVHU
namespace Go.Proofs.Ythmpdfmdhfgaaaa
open Go Go.Proofs.Ythmpdfmdhfgaaaa.DL
set_option maxRecDepth 100000

def kids (l : List Node) : Nat → Int → List Int
  | 0, _ => []
  | f + 1, k => if slotB l k then k :: kids l f (IntKind.i64.wrap ((l.getD k.toNat zeroN).next - 1)) else []
theorem kids_len (l : List Node) : ∀ (f : Nat) (k : Int), (kids l f k).length ≤ f
  | 0, _ => Nat.le_refl _
  | f + 1, k => by
    unfold kids
    split
    · have := kids_len l f (IntKind.i64.wrap ((l.getD k.toNat zeroN).next - 1)); simp only [List.length_cons]; omega
    · simp
theorem kids_out {l : List Node} {f : Nat} {k : Int} (h : slotB l k = false) : kids l f k = [] := by
  cases f with
  | zero => rfl
  | succ f => unfold kids; rw [h]; rfl
theorem kids_slot {l : List Node} : ∀ (f : Nat) (k : Int), ∀ x ∈ kids l f k, slotB l x = true
  | 0, _, x, hx => by cases hx
  | f + 1, k, x, hx => by
    unfold kids at hx
    split at hx
    · rename_i hs
      rcases List.mem_cons.1 hx with rfl | hx
      · exact hs
      · exact kids_slot f _ x hx
    · cases hx
/-- The children of a list that begins at 'first'. -/
def kidsL (l : List Node) (first : Int) : List Int := kids l l.length (IntKind.i64.wrap (first - 1))
theorem kidsL_len (l : List Node) (first : Int) : (kidsL l first).length ≤ l.length := kids_len ..
theorem kidsL_slot {l : List Node} {first : Int} : ∀ x ∈ kidsL l first, slotB l x = true := kids_slot _ _
theorem c_KidsOf {l : List Node} (hl : l.length ≤ 1048576) (first : Int) : CallD Try.prog F_impl_KidsOf [rNs l, iS first] fun r _ => r = oI (kidsL l first) := by
  have hM : l.length ≤ M63 := by unfold M63; omega
  refine k_impl_KidsOf ?_
  unfold vc_impl_KidsOf kidsL
  refine ⟨fun es n m => ∃ acc : List Int, es = ints acc ∧ acc.length ≤ l.length ∧ m = l.length - acc.length ∧ acc ++ kids l (l.length - acc.length) n = kids l l.length (IntKind.i64.wrap (first - 1)), ⟨_, [], rfl, by simp, rfl, by simp⟩, ?_⟩
  rintro es n m ⟨acc, rfl, ha, rfl, hr⟩
  simp only [nI, n_nodes, n_one, List.length_singleton, ints_length, decide_eq_true_eq (p := (acc.length : Int) < l.length), decide_eq_false_iff_not (p := (acc.length : Int) < l.length)]
  refine ⟨_, c_isSlot hM n, fun g1 => ⟨fun g2 => ?_, fun g2 => ?_⟩, fun g1 => ?_⟩
  · obtain ⟨q1, q2⟩ := slotB_iff.1 g1
    have hi : n.toNat < l.length := by omega
    simp only [drop_nodes hi, List.drop_succ_cons, List.drop_zero, hdD_cons, isI_iV, asI_iV, ints_snoc]
    refine ⟨by omega, by omega, q1, q2, by simp, trivial, trivial, l.length - (acc.length + 1), by omega, acc ++ [n], rfl, by simp; omega, by simp, ?_⟩
    rw [← hr]
    have e : l.length - acc.length = (l.length - (acc.length + 1)) + 1 := by omega
    rw [e]
    conv => rhs; unfold kids
    rw [if_pos g1, getD_node hi]
    simp
  · have e : l.length - acc.length = 0 := by omega
    rw [e] at hr
    rw [← hr]
    simp [kids]
  · rw [kids_out g1] at hr
    rw [← hr]; simp
theorem c_KidsOfS {l : List Node} (hl : l.length ≤ 1048576) (hok : ∀ n ∈ l, n.ok) {first : Int} (hf : I64 first) : CallD Try.prog F_spec_KidsOf [rNs l, iS first] fun r _ => r = oI (kidsL l first) := by
  have hM : l.length ≤ M63 := by unfold M63; omega
  refine k_spec_KidsOf ?_
  unfold vc_spec_KidsOf kidsL
  refine ⟨fun n es m => ∃ acc : List Int, es = ints acc ∧ acc.length ≤ l.length ∧ m = l.length - acc.length ∧ I64 n ∧ acc ++ kids l (l.length - acc.length) (IntKind.i64.wrap (n - 1)) = kids l l.length (IntKind.i64.wrap (first - 1)), ⟨_, [], rfl, by simp, rfl, hf, by simp⟩, ?_⟩
  rintro n es m ⟨acc, rfl, ha, rfl, hn, hr⟩
  have hP := c_l9Place (l := l) n
  rw [slot_pred hM hn] at hP
  simp only [nI, n_nodes, n_one, List.length_singleton, ints_length, decide_eq_true_eq (p := (acc.length : Int) < l.length), decide_eq_false_iff_not (p := (acc.length : Int) < l.length)]
  generalize IntKind.i64.wrap (n - 1) = u at *
  refine ⟨_, hP, fun g1 => ⟨fun g2 => ?_, fun g2 => ?_⟩, fun g1 => ?_⟩
  · obtain ⟨q1, q2⟩ := slotB_iff.1 g1
    have hi : u.toNat < l.length := by omega
    simp only [drop_nodes hi, List.drop_succ_cons, List.drop_zero, hdD_cons, isI_iV, asI_iV, ints_snoc]
    refine ⟨by omega, by omega, q1, q2, by simp, trivial, trivial, l.length - (acc.length + 1), by omega, acc ++ [u], rfl, by simp; omega, by simp, (hok _ (List.getElem_mem hi)).2.2.2.2.2.2.1, ?_⟩
    rw [← hr]
    have e : l.length - acc.length = (l.length - (acc.length + 1)) + 1 := by omega
    rw [e]
    conv => rhs; unfold kids
    rw [if_pos g1, getD_node hi]
    simp
  · have e : l.length - acc.length = 0 := by omega
    rw [e] at hr
    rw [← hr]
    simp [kids]
  · rw [kids_out g1] at hr
    rw [← hr]; simp
def steps (c : Conf) (x : Waste) : Nat → Int
  | 0 => IntKind.i64.wrap (x.tags.length + 1)
  | k + 1 => IntKind.i64.wrap (steps c x k + if k = 0 then ceilDiv (IntKind.i64.wrap (c.size - x.done)) c.slice else ceilDiv c.size c.slice)
def remains (n : Node) (slot : Int) : Waste := ⟨slot, n.first, n.tags, n.chunks, 0⟩
end Go.Proofs.Ythmpdfmdhfgaaaa
