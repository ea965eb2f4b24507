/- The program's IsClear returns what the reference's IsClear returns, for all arguments: the law FnExactIsClear says true of every world. No conditions. -/
import Derived.Test.YtkhepjkfjpdhcaaHR
import Derived.Test.YtkhepjkfjpdhcaaRows
import Derived.Test.YtkhepjkfjpdhcaaChecked
import Derived.ProofKit
namespace Go.Proofs.Ytkhepjkfjpdhcaa
open Go Go.Proofs.Ytkhepjkfjpdhcaa.DL
open Go.ChangeShapes Go.WideShapes Go.ChangeAt Go.RowKit
set_option maxRecDepth 100000

namespace IsClear
theorem c_law {w : World'} (hw : w.ok) : CallD Try.prog F_laws_FnExactIsClear [rWorld w] fun r _ => r = bS true := by
  refine k_laws_FnExactIsClear ?_
  unfold vc_laws_FnExactIsClear
  refine ⟨_, c_szWorld hw, fun _ => rfl, fun g => ?_⟩
  have hl : w.l.length ≤ 1048576 := by
    obtain ⟨-, h2, -⟩ := World'.tot_le g
    have := szs_nonneg w.l
    unfold totN at h2; omega
  have hT := c_toWorld g
  have hF := c_eqWorld_self g
  clear g
  have hS := c_IsClearS w
  have hI := c_IsClear w
  generalize decide ((w.q.length : Int) = 0) = b at *
  clear hl
  cases b <;>
    repeat' (first
    | trivial
    | exact hT
    | exact hF
    | exact hS
    | exact hI
    | (intro g; exfalso; revert g; simp; done)
    | intro _
    | apply And.intro
    | apply Exists.intro)

theorem lifted (os : Os) (started : os.Started) (H : Type) (enc : TypeId × Value → H) :
    ReturnsInHanded {} Try.checked os F_laws_FnExactIsClear .any (Rows.fnExactIsClearSpec.pre6 enc Try.prog Try.f4 Rows.fnExactIsClearRow.domain false) (Rows.fnExactIsClearSpec.post enc Try.prog Try.f4 false true false false) := by
  refine returnsInHanded_of_change (C := Try.checked) own started (by kernel_rfl) Try.func4
    (ChangeSpec.witness6 (enc := enc) (C := Try.checked) false ⟨#[], #[.agg #[.int .i64 0, .int .i64 0, .int .i64 0, .int .i64 0, .int .i64 0, .int .i64 0, .slice none 0 0, .slice none 0 0, .slice none 0 0, .slice none 0 0, .slice none 0 0, .slice none 0 0]], []⟩ 8 (by kernel_rfl) (by kernel_rfl) (by kernel_rfl) (by kernel_rfl)) ?_
  intro W base args ds gs before hval0 hW hcnd _
  refine law_row (bs := [true]) (bt := 4) laidOut shOk rfl (by kernel_rfl) (by kernel_rfl) (by kernel_rfl) (fun ds h => ?_) (by kernel_rfl) (by kernel_rfl) ?_ hW hval0
  · match ds, h with
    | [_], _ => rfl
  · have e : Try.f4.params.toList = [46] := by kernel_rfl
    rw [e]
    intro ds1 es1 he1 w1
    have e46 : sh 46 = some [.int .i64, .int .i64, .int .i64, .int .i64, .int .i64, .int .i64, .sl [.int .u8], .sl [.int .i64], .sl [.int .i64], .sl [.int .i64, .int .i64, .int .i64, .int .i64, .int .i64, .int .i64, .int .i64, .int .i64, .sl [.int .i64], .int .i64, .int .i64, .sl [.int .i64, .int .i64, .int .i64], .sl [.int .i64]], .sl [.int .i64, .int .i64, .sl [.int .i64], .sl [.int .i64], .int .i64], .sl [.int .i64]] := by kernel_rfl
    cases e46.symm.trans he1
    obtain ⟨w, rfl, hw⟩ := world_inv w1
    exact c_law hw
end IsClear
theorem fnExactIsClear_holds : Rows.FnExactIsClearSaid :=
  OpenClaim.holds_of_wide F_laws_FnExactIsClear Try.f4 rfl rfl rfl rfl rfl rfl rfl ⟨rfl, rfl, rfl, rfl, rfl⟩ rfl rfl rfl rfl rfl (by kernel_rfl) Try.func4 (by kernel_rfl)
    (of_decide_eq_true (by kernel_rfl)) (by unfold Func.isWrapper; first | (rw [if_pos (by decide +kernel)]; kernel_rfl) | (rw [if_neg (by decide +kernel)]; exact ⟨rfl, rfl⟩))
    (fun os started H enc _ => IsClear.lifted os started H enc)
#print axioms fnExactIsClear_holds
end Go.Proofs.Ytkhepjkfjpdhcaa
