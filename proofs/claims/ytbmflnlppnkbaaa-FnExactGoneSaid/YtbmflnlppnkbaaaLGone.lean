/- The program's Gone returns what the reference's Gone returns, for all arguments: the law FnExactGone says true of every node. No conditions. -/
import Derived.Test.YtbmflnlppnkbaaaHH
import Derived.Test.YtbmflnlppnkbaaaRows
import Derived.Test.YtbmflnlppnkbaaaChecked
import Derived.ProofKit
namespace Go.Proofs.Ytbmflnlppnkbaaa
open Go Go.Proofs.Ytbmflnlppnkbaaa.DL
open Go.ChangeShapes Go.WideShapes Go.ChangeAt Go.RowKit
set_option maxRecDepth 100000

namespace Gone
def res (n : Node) : Node := ⟨2, n.gen, 0, 0, 0, 0, 0, 0, [], 0, 0, [], []⟩
theorem c_spec {n : Node} (_ : n.sz ≤ 1048576) : CallD Try.prog F_spec_Gone [rNode n] fun r _ => r = oNode (res n) := k_spec_Gone rfl
theorem c_impl {n : Node} (_ : n.sz ≤ 1048576) : CallD Try.prog F_impl_Gone [rNode n] fun r _ => r = oNode (res n) := k_impl_Gone rfl
theorem c_law {n : Node} (hn : n.ok) : CallD Try.prog F_laws_FnExactGone [rNode n] fun r _ => r = bS true := by
  refine k_laws_FnExactGone ?_
  unfold vc_laws_FnExactGone
  refine ⟨_, c_szNode hn, fun _ => rfl, fun g => ?_⟩
  have hs : n.sz ≤ 1048576 := Node.left_sz (by simpa using g)
  clear g
  have hT := c_toNode hs
  have hS := c_spec hs
  have hI := c_impl hs
  have hr : (res n).sz ≤ 1048576 := by simp [res, Node.sz]
  have hc : (res n).cells = 0 := by simp [res, Node.cells]
  have hn0 : 0 ≤ n.cells := by unfold Node.cells; omega
  have hE := c_eqNode_self hr
  have hF := c_eqNode_self hs
  have hM := c_markNode hs (b := 1) (by omega) (by omega)
  have hN := c_markNode hr (b := 1) (by omega) (by omega)
  have hH := c_heldNode hr (b := 1) (by omega) (by omega)
  repeat' (first
      | trivial
      | exact hT
      | exact hS
      | exact hI
      | exact hE
      | exact hF
      | exact hM
      | exact hN
      | exact hH
      | (intro g; exfalso; revert g; simp; done)
      | (intro g; exfalso; simp only [decide_eq_true_eq] at g; omega)
      | intro _
      | apply And.intro
      | apply Exists.intro)

theorem lifted (os : Os) (started : os.Started) (H : Type) (enc : TypeId × Value → H) :
    ReturnsInHanded {} Try.checked os F_laws_FnExactGone .any (Rows.fnExactGoneSpec.pre6 enc Try.prog Try.f12 Rows.fnExactGoneRow.domain false) (Rows.fnExactGoneSpec.post enc Try.prog Try.f12 false true false false) := by
  refine returnsInHanded_of_change (C := Try.checked) own started (by kernel_rfl) Try.func12
    (ChangeSpec.witness6 (enc := enc) (C := Try.checked) false ⟨#[], #[.agg #[.int .i64 0, .int .i64 0, .int .i64 0, .int .i64 0, .int .i64 0, .int .i64 0, .int .i64 0, .int .i64 0, .slice none 0 0, .int .i64 0, .int .i64 0, .slice none 0 0, .slice none 0 0]], []⟩ 8 (by kernel_rfl) (by kernel_rfl) (by kernel_rfl) (by kernel_rfl)) ?_
  intro W base args ds gs before hval0 hW hcnd _
  refine law_row (bs := [true]) (bt := 4) laidOut shOk rfl (by kernel_rfl) (by kernel_rfl) (by kernel_rfl) (fun ds h => ?_) (by kernel_rfl) (by kernel_rfl) ?_ hW hval0
  · match ds, h with
    | [_], _ => rfl
  · have e : Try.f12.params.toList = [65] := by kernel_rfl
    rw [e]
    intro ds1 es1 he1 w1
    have e1 : sh 65 = some [.int .i64, .int .i64, .int .i64, .int .i64, .int .i64, .int .i64, .int .i64, .int .i64, .sl [.int .i64], .int .i64, .int .i64, .sl [.int .i64, .int .i64, .int .i64], .sl [.int .i64]] := by kernel_rfl
    cases e1.symm.trans he1
    obtain ⟨n, rfl, hn⟩ := node_inv w1
    exact c_law hn
end Gone
theorem fnExactGone_holds : Rows.FnExactGoneSaid :=
  OpenClaim.holds_of_wide F_laws_FnExactGone Try.f12 rfl rfl rfl rfl rfl rfl rfl ⟨rfl, rfl, rfl, rfl, rfl⟩ rfl rfl rfl rfl rfl (by kernel_rfl) Try.func12 (by kernel_rfl)
    (of_decide_eq_true (by kernel_rfl)) (by unfold Func.isWrapper; first | (rw [if_pos (by decide +kernel)]; kernel_rfl) | (rw [if_neg (by decide +kernel)]; exact ⟨rfl, rfl⟩))
    (fun os started H enc _ => Gone.lifted os started H enc)
#print axioms fnExactGone_holds
end Go.Proofs.Ytbmflnlppnkbaaa
