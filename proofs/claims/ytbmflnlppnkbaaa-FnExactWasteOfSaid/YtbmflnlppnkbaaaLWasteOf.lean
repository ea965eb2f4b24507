/- The program's WasteOf returns what the reference's WasteOf returns, for all arguments: the law FnExactWasteOf says true of every node and slot. No conditions. -/
import Derived.Test.YtbmflnlppnkbaaaHH
import Derived.Test.YtbmflnlppnkbaaaRows
import Derived.Test.YtbmflnlppnkbaaaChecked
import Derived.ProofKit
namespace Go.Proofs.Ytbmflnlppnkbaaa
open Go Go.Proofs.Ytbmflnlppnkbaaa.DL
open Go.ChangeShapes Go.WideShapes Go.ChangeAt Go.RowKit
set_option maxRecDepth 100000

namespace WasteOf
def res (n : Node) (slot : Int) : Waste := ⟨slot, n.first, n.tags, n.chunks, 0⟩
theorem c_spec {n : Node} (hs : n.sz ≤ 1048576) (slot : Int) : CallD Try.prog F_spec_WasteOf [rNode n, iS slot] fun r _ => r = oWaste (res n slot) := by
  unfold Node.sz at hs
  refine k_spec_WasteOf ?_
  unfold vc_spec_WasteOf
  simp only [ints_length, n_one, List.length_nil, List.nil_append]
  exact ⟨AllVal_ints _, by omega, by omega, AllVal_ints _, by omega, by omega, rfl⟩
theorem c_impl {n : Node} (hs : n.sz ≤ 1048576) (slot : Int) : CallD Try.prog F_impl_WasteOf [rNode n, iS slot] fun r _ => r = oWaste (res n slot) := by
  unfold Node.sz at hs
  refine k_impl_WasteOf ?_
  unfold vc_impl_WasteOf
  exact ⟨_, c_cloneI (by omega), _, c_cloneI (by omega), rfl⟩
theorem c_law {n : Node} (hn : n.ok) (slot : Int) : CallD Try.prog F_laws_FnExactWasteOf [rNode n, iS slot] fun r _ => r = bS true := by
  refine k_laws_FnExactWasteOf ?_
  unfold vc_laws_FnExactWasteOf
  refine ⟨_, c_szNode hn, fun _ => rfl, fun g => ?_⟩
  have hs : n.sz ≤ 1048576 := Node.left_sz (by simpa using g)
  clear g
  have hT := c_toNode hs
  have hS := c_spec hs slot
  have hI := c_impl hs slot
  have hr : (res n slot).sz ≤ 1048576 := by unfold Node.sz at hs; simp only [res, Waste.sz]; omega
  have h0 : 0 ≤ (res n slot).sz := by simp only [res, Waste.sz]; omega
  have hn0 : 0 ≤ n.cells := by unfold Node.cells; omega
  have hE := c_eqWaste (x := res n slot) (y := res n slot) hr
  have hF := c_eqNode_self hs
  have hM := c_markNode hs (b := 1) (by omega) (by omega)
  have hN := c_markWaste hr (b := 1) (by omega) (by omega)
  have hH := c_heldWaste hr (b := 1) (by omega) (by omega)
  repeat' (first
      | trivial
      | exact hT
      | exact hS
      | exact hI
      | exact hE
      | exact hF
      | exact hM
      | exact hN
      | exact hH
      | (intro g; exfalso; revert g; simp; done)
      | (intro g; exfalso; simp only [decide_eq_true_eq] at g; omega)
      | intro _
      | apply And.intro
      | apply Exists.intro)

theorem lifted (os : Os) (started : os.Started) (H : Type) (enc : TypeId × Value → H) :
    ReturnsInHanded {} Try.checked os F_laws_FnExactWasteOf .any (Rows.fnExactWasteOfSpec.pre6 enc Try.prog Try.f13 Rows.fnExactWasteOfRow.domain false) (Rows.fnExactWasteOfSpec.post enc Try.prog Try.f13 false true false false) := by
  refine returnsInHanded_of_change (C := Try.checked) own started (by kernel_rfl) Try.func13
    (ChangeSpec.witness6 (enc := enc) (C := Try.checked) false ⟨#[], #[.agg #[.int .i64 0, .int .i64 0, .int .i64 0, .int .i64 0, .int .i64 0, .int .i64 0, .int .i64 0, .int .i64 0, .slice none 0 0, .int .i64 0, .int .i64 0, .slice none 0 0, .slice none 0 0], .int .i64 0], []⟩ 8 (by kernel_rfl) (by kernel_rfl) (by kernel_rfl) (by kernel_rfl)) ?_
  intro W base args ds gs before hval0 hW hcnd _
  refine law_row (bs := [true, false]) (bt := 4) laidOut shOk rfl (by kernel_rfl) (by kernel_rfl) (by kernel_rfl) (fun ds h => ?_) (by kernel_rfl) (by kernel_rfl) ?_ hW hval0
  · match ds, h with
    | [_, _], _ => rfl
  · have e : Try.f13.params.toList = [65, 3] := by kernel_rfl
    rw [e]
    intro ds1 es1 he1 w1 ds2 es2 he2 w2
    have e1 : sh 65 = some [.int .i64, .int .i64, .int .i64, .int .i64, .int .i64, .int .i64, .int .i64, .int .i64, .sl [.int .i64], .int .i64, .int .i64, .sl [.int .i64, .int .i64, .int .i64], .sl [.int .i64]] := by kernel_rfl
    cases e1.symm.trans he1
    obtain ⟨n, rfl, hn⟩ := node_inv w1
    have e3 : sh 3 = some [.int .i64] := by kernel_rfl
    cases e3.symm.trans he2
    obtain ⟨d, r, rfl, h3, h4⟩ := cons_inv w2
    cases nil_inv h4
    obtain ⟨slot, rfl, -⟩ := int_inv h3
    exact c_law hn slot
end WasteOf
theorem fnExactWasteOf_holds : Rows.FnExactWasteOfSaid :=
  OpenClaim.holds_of_wide F_laws_FnExactWasteOf Try.f13 rfl rfl rfl rfl rfl rfl rfl ⟨rfl, rfl, rfl, rfl, rfl⟩ rfl rfl rfl rfl rfl (by kernel_rfl) Try.func13 (by kernel_rfl)
    (of_decide_eq_true (by kernel_rfl)) (by unfold Func.isWrapper; first | (rw [if_pos (by decide +kernel)]; kernel_rfl) | (rw [if_neg (by decide +kernel)]; exact ⟨rfl, rfl⟩))
    (fun os started H enc _ => WasteOf.lifted os started H enc)
#print axioms fnExactWasteOf_holds
end Go.Proofs.Ytbmflnlppnkbaaa
