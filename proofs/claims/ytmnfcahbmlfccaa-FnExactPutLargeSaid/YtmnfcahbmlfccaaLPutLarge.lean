/- The program's PutLarge returns what the reference's PutLarge returns, for all arguments: the law FnExactPutLarge says true of every configuration, node, chunk and size. No conditions. -/
import Derived.Test.YtmnfcahbmlfccaaHXa
import Derived.Test.YtmnfcahbmlfccaaVN2
import Derived.Test.YtmnfcahbmlfccaaRows
import Derived.Test.YtmnfcahbmlfccaaChecked
import Derived.ProofKit
namespace Go.Proofs.Ytmnfcahbmlfccaa
open Go Go.Proofs.Ytmnfcahbmlfccaa.DL
open Go.ChangeShapes Go.WideShapes Go.ChangeAt Go.RowKit
set_option maxRecDepth 100000

namespace PutLarge
theorem c_law (c : Conf) {n : Node} (hn : n.ok) (k : Int) {z : Int} (hz : I64 z) : CallD Try.prog F_laws_FnExactPutLarge [confS c, rNode n, iS k, iS z] fun r _ => r = bS true := by
  refine k_laws_FnExactPutLarge ?_
  unfold vc_laws_FnExactPutLarge
  refine ⟨_, c_szNode hn, fun _ => rfl, fun g => ?_⟩
  have hs : n.sz ≤ 1048576 := Node.left_sz (by simpa using g)
  clear g
  have hT := c_toNode hs
  have hU := c_toConf c
  have hS := c_PutLargeS c hn hs k hz
  have hI := c_PutLarge c hn hs k hz
  have hF := c_eqNode_self hs
  have hr := largeN_sz (c := c) hs k z
  generalize largeN c n k z = r at *
  generalize largeB c n k z = b at *
  have hc0 : 0 ≤ n.cells := by unfold Node.cells; omega
  have hc1 : 0 ≤ r.cells := by unfold Node.cells; omega
  have hE := c_eqNode_self hr
  have hM := c_markNode hs (b := 1) (by omega) (by omega)
  have hN := c_markNode hr (b := 1) (by omega) (by omega)
  have hH := c_heldNode hr (b := 1) (by omega) (by omega)
  clear hs hn hr
  cases b <;>
    repeat' (first
    | trivial
    | exact hT
    | exact hU
    | exact hS
    | exact hI
    | exact hF
    | exact hE
    | exact hM
    | exact hN
    | exact hH
    | (intro g; exfalso; revert g; simp; done)
    | (intro g; exfalso; simp only [decide_eq_true_eq] at g; omega)
    | intro _
    | apply And.intro
    | apply Exists.intro)

theorem lifted (os : Os) (started : os.Started) (H : Type) (enc : TypeId × Value → H) :
    ReturnsInHanded {} Try.checked os F_laws_FnExactPutLarge .any (Rows.fnExactPutLargeSpec.pre6 enc Try.prog Try.f6 Rows.fnExactPutLargeRow.domain false) (Rows.fnExactPutLargeSpec.post enc Try.prog Try.f6 false true false false) := by
  refine returnsInHanded_of_change (C := Try.checked) own started (by kernel_rfl) Try.func6
    (ChangeSpec.witness6 (enc := enc) (C := Try.checked) false ⟨#[], #[.agg #[.int .i64 0, .int .i64 0, .int .i64 0, .int .i64 0, .int .i64 0, .int .i64 0], .agg #[.int .i64 0, .int .i64 0, .int .i64 0, .int .i64 0, .int .i64 0, .int .i64 0, .int .i64 0, .int .i64 0, .slice none 0 0, .int .i64 0, .int .i64 0, .slice none 0 0, .slice none 0 0], .int .i64 0, .int .i64 0], []⟩ 8 (by kernel_rfl) (by kernel_rfl) (by kernel_rfl) (by kernel_rfl)) ?_
  intro W base args ds gs before hval0 hW hcnd _
  refine law_row (bs := [true, true, false, false]) (bt := 4) laidOut shOk rfl (by kernel_rfl) (by kernel_rfl) (by kernel_rfl) (fun ds h => ?_) (by kernel_rfl) (by kernel_rfl) ?_ hW hval0
  · match ds, h with
    | [_, _, _, _], _ => rfl
  · have e : Try.f6.params.toList = [33, 37, 3, 3] := by kernel_rfl
    rw [e]
    intro ds1 es1 he1 w1 ds2 es2 he2 w2 ds3 es3 he3 w3 ds4 es4 he4 w4
    have e33 : sh 33 = some [.int .i64, .int .i64, .int .i64, .int .i64, .int .i64, .int .i64] := by kernel_rfl
    cases e33.symm.trans he1
    have e37 : sh 37 = some [.int .i64, .int .i64, .int .i64, .int .i64, .int .i64, .int .i64, .int .i64, .int .i64, .sl [.int .i64], .int .i64, .int .i64, .sl [.int .i64, .int .i64, .int .i64], .sl [.int .i64]] := by kernel_rfl
    cases e37.symm.trans he2
    have e3 : sh 3 = some [.int .i64] := by kernel_rfl
    cases e3.symm.trans he3
    cases e3.symm.trans he4
    obtain ⟨c, rfl, hc⟩ := conf_inv w1
    obtain ⟨n, rfl, hn⟩ := node_inv w2
    obtain ⟨d3, r3, rfl, k3, j3⟩ := cons_inv w3
    cases nil_inv j3
    obtain ⟨k, rfl, hk⟩ := int_inv k3
    obtain ⟨d4, r4, rfl, k4, j4⟩ := cons_inv w4
    cases nil_inv j4
    obtain ⟨z, rfl, hz⟩ := int_inv k4
    exact c_law c hn k hz
end PutLarge
theorem fnExactPutLarge_holds : Rows.FnExactPutLargeSaid :=
  OpenClaim.holds_of_wide F_laws_FnExactPutLarge Try.f6 rfl rfl rfl rfl rfl rfl rfl ⟨rfl, rfl, rfl, rfl, rfl⟩ rfl rfl rfl rfl rfl (by kernel_rfl) Try.func6 (by kernel_rfl)
    (of_decide_eq_true (by kernel_rfl)) (by unfold Func.isWrapper; first | (rw [if_pos (by decide +kernel)]; kernel_rfl) | (rw [if_neg (by decide +kernel)]; exact ⟨rfl, rfl⟩))
    (fun os started H enc _ => PutLarge.lifted os started H enc)
#print axioms fnExactPutLarge_holds
end Go.Proofs.Ytmnfcahbmlfccaa
