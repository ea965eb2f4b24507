/- Contracts of small functions: chunks let go and wiped. -/
import Derived.Test.YthmpdfmdhfgaaaaHPr
import Derived.Test.YthmpdfmdhfgaaaaVHWp
namespace Go.Proofs.Ythmpdfmdhfgaaaa
open Go Go.Proofs.Ythmpdfmdhfgaaaa.DL
set_option maxRecDepth 100000

/-- A pool that can be copied. -/
structure PoolC (p : Pool) : Prop where
  mem : p.mem.length ≤ 1048576
  st : p.st.length ≤ 1048576
  own : p.own.length ≤ 1048576
theorem PoolD.c {p : Pool} (h : PoolD p) : PoolC p := by
  obtain ⟨h1, h2, h3⟩ := h
  exact ⟨by omega, by omega, by omega⟩
theorem c_copyPoolC {p : Pool} (h : PoolC p) : CallD Try.prog F_impl_copyPool [rPool p] fun r _ => r = oPool p := by
  refine k_impl_copyPool ?_
  unfold vc_impl_copyPool
  exact ⟨_, c_cloneB h.mem, _, c_cloneI h.st, _, c_cloneI h.own, rfl⟩
theorem c_l4CopyC {p : Pool} (h : PoolC p) : CallD Try.prog F_spec_l4Copy [rPool p] fun r _ => r = oPool p := by
  obtain ⟨h1, h2, h3⟩ := h
  refine k_spec_l4Copy ?_
  unfold vc_spec_l4Copy
  simp only [ints_length, byts_length, n_one, List.length_nil, List.nil_append]
  exact ⟨AllVal_byts _, by omega, by omega, AllVal_ints _, by omega, by omega, AllVal_ints _, by omega, by omega, by trivial⟩
def goB (p : Pool) (k : Int) : Bool := decide (0 ≤ k) && (decide (k < poolN p) && decide (p.st.getD k.toNat 0 = 1))
def goP (p : Pool) (k : Int) : Pool := if goB p k then { p with st := p.st.set k.toNat 2, own := p.own.set k.toNat (-1) } else p
theorem goP_no {p : Pool} {k : Int} (h : goB p k = false) : oPool p = oPool (goP p k) := by unfold goP; rw [h]; rfl
theorem goP_yes {p : Pool} {k : Int} (h : goB p k = true) : aS [.own (.sl 1 (byts p.mem)), .own (.sl 1 ((ints p.st).set (k.toNat * 1) (iV 2))), .own (.sl 1 ((ints p.own).set (k.toNat * 1) (iV (-1))))] = oPool (goP p k) := by
  unfold goP; rw [h, Nat.mul_one, set_ints, set_ints]; rfl
/-- Bytes of which some are wiped. -/
def wipeL (l : List Int) (a n : Nat) : List Int := l.take a ++ (List.replicate (min n (l.length - a)) 0 ++ l.drop (a + n))
theorem wipe_step {l : List Int} {a k : Nat} (h : a + k < l.length) : (l.take a ++ (List.replicate k 0 ++ l.drop (a + k))).set (a + k) 0 = l.take a ++ (List.replicate (k + 1) 0 ++ l.drop (a + (k + 1))) := by
  rw [List.drop_eq_getElem_cons h, List.set_append_right _ _ (by simp; omega), List.set_append_right _ _ (by simp; omega), List.replicate_succ', List.append_assoc]
  have e : a + k - (List.take a l).length - (List.replicate k (0 : Int)).length = 0 := by simp; omega
  rw [e]
  rfl
theorem wipeL_length (l : List Int) (a n : Nat) : (wipeL l a n).length = l.length := by unfold wipeL; simp; omega
def wipeI (l : List Int) (a n : Int) : List Int := if a < 0 ∨ n < 0 then l else wipeL l a.toNat n.toNat
end Go.Proofs.Ythmpdfmdhfgaaaa
