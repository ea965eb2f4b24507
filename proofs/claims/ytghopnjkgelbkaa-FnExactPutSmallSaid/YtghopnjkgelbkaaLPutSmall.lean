/- The program's PutSmall returns what the reference's PutSmall returns, for all arguments: the law FnExactPutSmall says true of every configuration, node, size and alignment. No conditions. -/
import Derived.Test.YtghopnjkgelbkaaHX
import Derived.Test.YtghopnjkgelbkaaVN1
import Derived.Test.YtghopnjkgelbkaaRows
import Derived.Test.YtghopnjkgelbkaaChecked
import Derived.ProofKit
namespace Go.Proofs.Ytghopnjkgelbkaa
open Go Go.Proofs.Ytghopnjkgelbkaa.DL
open Go.ChangeShapes Go.WideShapes Go.ChangeAt Go.RowKit
set_option maxRecDepth 100000

namespace PutSmall
theorem c_law (c : Conf) {n : Node} (hn : n.ok) (z a : Int) : CallD Try.prog F_laws_FnExactPutSmall [confS c, rNode n, iS z, iS a] fun r _ => r = bS true := by
  refine k_laws_FnExactPutSmall ?_
  unfold vc_laws_FnExactPutSmall
  refine ⟨_, c_szNode hn, fun _ => rfl, fun g => ?_⟩
  have hs : n.sz ≤ 1048576 := Node.left_sz (by simpa using g)
  clear g
  have hT := c_toNode hs
  have hU := c_toConf c
  have hS := c_PutSmallS c hn hs z a
  have hI := c_PutSmall c hn hs z a
  have hF := c_eqNode_self hs
  have hr := putS_sz (c := c) hs z a
  generalize putS c n z a = r at *
  generalize putSB c n z a = b at *
  have hc0 : 0 ≤ n.cells := by unfold Node.cells; omega
  have hc1 : 0 ≤ r.cells := by unfold Node.cells; omega
  have hE := c_eqNode_self hr
  have hM := c_markNode hs (b := 1) (by omega) (by omega)
  have hN := c_markNode hr (b := 1) (by omega) (by omega)
  have hH := c_heldNode hr (b := 1) (by omega) (by omega)
  clear hs hn hr
  cases b <;>
    repeat' (first
    | trivial
    | exact hT
    | exact hU
    | exact hS
    | exact hI
    | exact hF
    | exact hE
    | exact hM
    | exact hN
    | exact hH
    | (intro g; exfalso; revert g; simp; done)
    | (intro g; exfalso; simp only [decide_eq_true_eq] at g; omega)
    | intro _
    | apply And.intro
    | apply Exists.intro)

theorem lifted (os : Os) (started : os.Started) (H : Type) (enc : TypeId × Value → H) :
    ReturnsInHanded {} Try.checked os F_laws_FnExactPutSmall .any (Rows.fnExactPutSmallSpec.pre6 enc Try.prog Try.f3 Rows.fnExactPutSmallRow.domain false) (Rows.fnExactPutSmallSpec.post enc Try.prog Try.f3 false true false false) := by
  refine returnsInHanded_of_change (C := Try.checked) own started (by kernel_rfl) Try.func3
    (ChangeSpec.witness6 (enc := enc) (C := Try.checked) false ⟨#[], #[.agg #[.int .i64 0, .int .i64 0, .int .i64 0, .int .i64 0, .int .i64 0, .int .i64 0], .agg #[.int .i64 0, .int .i64 0, .int .i64 0, .int .i64 0, .int .i64 0, .int .i64 0, .int .i64 0, .int .i64 0, .slice none 0 0, .int .i64 0, .int .i64 0, .slice none 0 0, .slice none 0 0], .int .i64 0, .int .i64 0], []⟩ 8 (by kernel_rfl) (by kernel_rfl) (by kernel_rfl) (by kernel_rfl)) ?_
  intro W base args ds gs before hval0 hW hcnd _
  refine law_row (bs := [true, true, false, false]) (bt := 4) laidOut shOk rfl (by kernel_rfl) (by kernel_rfl) (by kernel_rfl) (fun ds h => ?_) (by kernel_rfl) (by kernel_rfl) ?_ hW hval0
  · match ds, h with
    | [_, _, _, _], _ => rfl
  · have e : Try.f3.params.toList = [23, 27, 3, 3] := by kernel_rfl
    rw [e]
    intro ds1 es1 he1 w1 ds2 es2 he2 w2 ds3 es3 he3 w3 ds4 es4 he4 w4
    have e23 : sh 23 = some [.int .i64, .int .i64, .int .i64, .int .i64, .int .i64, .int .i64] := by kernel_rfl
    cases e23.symm.trans he1
    have e27 : sh 27 = some [.int .i64, .int .i64, .int .i64, .int .i64, .int .i64, .int .i64, .int .i64, .int .i64, .sl [.int .i64], .int .i64, .int .i64, .sl [.int .i64, .int .i64, .int .i64], .sl [.int .i64]] := by kernel_rfl
    cases e27.symm.trans he2
    have e3 : sh 3 = some [.int .i64] := by kernel_rfl
    cases e3.symm.trans he3
    cases e3.symm.trans he4
    obtain ⟨c, rfl, hc⟩ := conf_inv w1
    obtain ⟨n, rfl, hn⟩ := node_inv w2
    obtain ⟨d3, r3, rfl, k3, j3⟩ := cons_inv w3
    cases nil_inv j3
    obtain ⟨z, rfl, hz⟩ := int_inv k3
    obtain ⟨d4, r4, rfl, k4, j4⟩ := cons_inv w4
    cases nil_inv j4
    obtain ⟨a, rfl, ha⟩ := int_inv k4
    exact c_law c hn z a
end PutSmall
theorem fnExactPutSmall_holds : Rows.FnExactPutSmallSaid :=
  OpenClaim.holds_of_wide F_laws_FnExactPutSmall Try.f3 rfl rfl rfl rfl rfl rfl rfl ⟨rfl, rfl, rfl, rfl, rfl⟩ rfl rfl rfl rfl rfl (by kernel_rfl) Try.func3 (by kernel_rfl)
    (of_decide_eq_true (by kernel_rfl)) (by unfold Func.isWrapper; first | (rw [if_pos (by decide +kernel)]; kernel_rfl) | (rw [if_neg (by decide +kernel)]; exact ⟨rfl, rfl⟩))
    (fun os started H enc _ => PutSmall.lifted os started H enc)
#print axioms fnExactPutSmall_holds
end Go.Proofs.Ytghopnjkgelbkaa
