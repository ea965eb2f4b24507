/- Contracts of small functions: tables copied, marked, linked. -/
import Derived.Test.YtkhepjkfjpdhcaaHO
namespace Go.Proofs.Ytkhepjkfjpdhcaa
open Go Go.Proofs.Ytkhepjkfjpdhcaa.DL
set_option maxRecDepth 100000

theorem c_cloneT {l : List Thing} (hl : l.length ≤ 1048576) : CallD Try.prog F_slices_Clone_impl_Thing [rTh l] fun r _ => r = oTh l := by
  refine k_slices_Clone_impl_Thing ?_
  unfold vc_slices_Clone_impl_Thing
  simp only [n_things]
  have e : (DV.sl 3 ([] : List DV)).n = 0 := rfl
  rw [e]
  refine ⟨fun h => ?_, AllVal_things l, by omega, by omega, rfl⟩
  show oneC (.own (.sl 3 [])) = oneC (.own (.sl 3 (thgs l)))
  rw [h]
theorem c_copyNode {n : Node} (hs : n.sz ≤ 1048576) : CallD Try.prog F_impl_copyNode [rNode n] fun r _ => r = oNode n := by
  unfold Node.sz at hs
  refine k_impl_copyNode ?_
  unfold vc_impl_copyNode
  exact ⟨_, c_cloneI (by omega), _, c_cloneT (by omega), _, c_cloneI (by omega), rfl⟩
theorem c_l7Copy {n : Node} (hs : n.sz ≤ 1048576) : CallD Try.prog F_spec_l7Copy [rNode n] fun r _ => r = oNode n := by
  unfold Node.sz at hs
  refine k_spec_l7Copy ?_
  unfold vc_spec_l7Copy
  simp only [ints_length, n_things, n_one, List.length_nil, List.nil_append]
  have e : (DV.sl 3 ([] : List DV)).n = 0 := rfl
  rw [e]
  exact ⟨AllVal_ints _, by omega, by omega, AllVal_things _, by omega, by omega, AllVal_ints _, by omega, by omega, trivial⟩
theorem nods_snoc (l : List Node) (n : Node) : nods l ++ [iV n.st, iV n.gen, iV n.ep, iV n.up, iV n.upEp, iV n.first, iV n.next, iV n.prev, .sl 1 (ints n.chunks), iV n.cur, iV n.bump, .sl 3 (thgs n.things), .sl 1 (ints n.tags)] = nods (l ++ [n]) := flat_one Node.enc l n
/-- A node of a table changed. -/
def upd (l : List Node) (k : Nat) (f : Node → Node) : List Node := l.set k (f (l.getD k zeroN))
theorem upd_length (l : List Node) (k : Nat) (f : Node → Node) : (upd l k f).length = l.length := by simp [upd]
theorem szs_upd {l : List Node} {k : Nat} {f : Node → Node} (hf : ∀ n, (f n).sz = n.sz) : szs (upd l k f) = szs l := by
  unfold upd
  by_cases h : k < l.length
  · rw [List.set_eq_take_append_cons_drop, if_pos h, szs_app, szs, hf, getD_node h]
    have e : l = l.take k ++ l[k] :: l.drop (k + 1) := by rw [List.getElem_cons_drop, List.take_append_drop]
    conv => rhs; rw [e]
    rw [szs_app, szs]
  · rw [List.set_eq_of_length_le (by omega)]
theorem totN_upd {l : List Node} {k : Nat} {f : Node → Node} (hf : ∀ n, (f n).sz = n.sz) : totN (upd l k f) = totN l := by
  unfold totN; rw [szs_upd hf, upd_length]
theorem set_cell {l : List Node} {k : Nat} (h : k < l.length) {j : Nat} {v : Int} {f : Node → Node} (hf : ∀ n : Node, n.enc.set j (iV v) = (f n).enc) (hj : j < 13) : (nods l).set (k * 13 + j) (iV v) = nods (upd l k f) := by
  unfold upd
  rw [nodes_set h, nodes_split h, set_at (nodes_pre h), List.set_append_left _ _ (by rw [Node.enc_len]; exact hj), hf, getD_node h]
theorem set_ep {l : List Node} {k : Nat} (h : k < l.length) (v : Int) : (nods l).set (k * 13 + 2) (iV v) = nods (upd l k fun n => { n with ep := v }) := set_cell h (fun _ => rfl) (by omega)
theorem set_up {l : List Node} {k : Nat} (h : k < l.length) (v : Int) : (nods l).set (k * 13 + 3) (iV v) = nods (upd l k fun n => { n with up := v }) := set_cell h (fun _ => rfl) (by omega)
theorem set_upEp {l : List Node} {k : Nat} (h : k < l.length) (v : Int) : (nods l).set (k * 13 + 4) (iV v) = nods (upd l k fun n => { n with upEp := v }) := set_cell h (fun _ => rfl) (by omega)
theorem set_first {l : List Node} {k : Nat} (h : k < l.length) (v : Int) : (nods l).set (k * 13 + 5) (iV v) = nods (upd l k fun n => { n with first := v }) := set_cell h (fun _ => rfl) (by omega)
theorem set_next {l : List Node} {k : Nat} (h : k < l.length) (v : Int) : (nods l).set (k * 13 + 6) (iV v) = nods (upd l k fun n => { n with next := v }) := set_cell h (fun _ => rfl) (by omega)
theorem set_prev {l : List Node} {k : Nat} (h : k < l.length) (v : Int) : (nods l).set (k * 13 + 7) (iV v) = nods (upd l k fun n => { n with prev := v }) := set_cell h (fun _ => rfl) (by omega)
end Go.Proofs.Ytkhepjkfjpdhcaa
