/- The program's InChunks returns what the reference's InChunks returns, for all arguments: the law FnExactInChunks says true of every configuration and node. No conditions. -/
import Derived.Test.YtckcehmggdnliaaHM
import Derived.Test.YtckcehmggdnliaaRows
import Derived.Test.YtckcehmggdnliaaChecked
import Derived.ProofKit
namespace Go.Proofs.Ytckcehmggdnliaa
open Go Go.Proofs.Ytckcehmggdnliaa.DL
open Go.ChangeShapes Go.WideShapes Go.ChangeAt Go.RowKit
set_option maxRecDepth 100000

namespace InChunks
theorem c_law (c : Conf) {n : Node} (hn : n.ok) : CallD Try.prog F_laws_FnExactInChunks [confS c, rNode n] fun r _ => r = bS true := by
  refine k_laws_FnExactInChunks ?_
  unfold vc_laws_FnExactInChunks
  refine ⟨_, c_szNode hn, fun _ => rfl, fun g => ?_⟩
  have hs : n.sz ≤ 1048576 := Node.left_sz (by simpa using g)
  clear g
  have hT := c_toNode hs
  have hU := c_toConf c
  have hS := c_InChunksS c hn hs
  have hI := c_InChunks c hn hs
  have hF := c_eqNode_self hs
  generalize insB c n = b at *
  cases b <;>
    repeat' (first
    | trivial
    | exact hT
    | exact hU
    | exact hS
    | exact hI
    | exact hF
    | (intro g; exfalso; revert g; simp; done)
    | intro _
    | apply And.intro
    | apply Exists.intro)

theorem lifted (os : Os) (started : os.Started) (H : Type) (enc : TypeId × Value → H) :
    ReturnsInHanded {} Try.checked os F_laws_FnExactInChunks .any (Rows.fnExactInChunksSpec.pre6 enc Try.prog Try.f4 Rows.fnExactInChunksRow.domain false) (Rows.fnExactInChunksSpec.post enc Try.prog Try.f4 false true false false) := by
  refine returnsInHanded_of_change (C := Try.checked) own started (by kernel_rfl) Try.func4
    (ChangeSpec.witness6 (enc := enc) (C := Try.checked) false ⟨#[], #[.agg #[.int .i64 0, .int .i64 0, .int .i64 0, .int .i64 0, .int .i64 0, .int .i64 0], .agg #[.int .i64 0, .int .i64 0, .int .i64 0, .int .i64 0, .int .i64 0, .int .i64 0, .int .i64 0, .int .i64 0, .slice none 0 0, .int .i64 0, .int .i64 0, .slice none 0 0, .slice none 0 0]], []⟩ 8 (by kernel_rfl) (by kernel_rfl) (by kernel_rfl) (by kernel_rfl)) ?_
  intro W base args ds gs before hval0 hW hcnd _
  refine law_row (bs := [true, true]) (bt := 4) laidOut shOk rfl (by kernel_rfl) (by kernel_rfl) (by kernel_rfl) (fun ds h => ?_) (by kernel_rfl) (by kernel_rfl) ?_ hW hval0
  · match ds, h with
    | [_, _], _ => rfl
  · have e : Try.f4.params.toList = [34, 37] := by kernel_rfl
    rw [e]
    intro ds1 es1 he1 w1 ds2 es2 he2 w2
    have e34 : sh 34 = some [.int .i64, .int .i64, .int .i64, .int .i64, .int .i64, .int .i64] := by kernel_rfl
    cases e34.symm.trans he1
    have e37 : sh 37 = some [.int .i64, .int .i64, .int .i64, .int .i64, .int .i64, .int .i64, .int .i64, .int .i64, .sl [.int .i64], .int .i64, .int .i64, .sl [.int .i64, .int .i64, .int .i64], .sl [.int .i64]] := by kernel_rfl
    cases e37.symm.trans he2
    obtain ⟨c, rfl, hc⟩ := conf_inv w1
    obtain ⟨n, rfl, hn⟩ := node_inv w2
    exact c_law c hn
end InChunks
theorem fnExactInChunks_holds : Rows.FnExactInChunksSaid :=
  OpenClaim.holds_of_wide F_laws_FnExactInChunks Try.f4 rfl rfl rfl rfl rfl rfl rfl ⟨rfl, rfl, rfl, rfl, rfl⟩ rfl rfl rfl rfl rfl (by kernel_rfl) Try.func4 (by kernel_rfl)
    (of_decide_eq_true (by kernel_rfl)) (by unfold Func.isWrapper; first | (rw [if_pos (by decide +kernel)]; kernel_rfl) | (rw [if_neg (by decide +kernel)]; exact ⟨rfl, rfl⟩))
    (fun os started H enc _ => InChunks.lifted os started H enc)
#print axioms fnExactInChunks_holds
end Go.Proofs.Ytckcehmggdnliaa
