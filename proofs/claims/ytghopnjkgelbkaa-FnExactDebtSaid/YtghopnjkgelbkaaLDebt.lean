/- The program's Debt returns what the reference's Debt returns, for all arguments: the law FnExactDebt says true of every world. No conditions. -/
import Derived.Test.YtghopnjkgelbkaaHUV
import Derived.Test.YtghopnjkgelbkaaVN4
import Derived.Test.YtghopnjkgelbkaaRows
import Derived.Test.YtghopnjkgelbkaaChecked
import Derived.ProofKit
namespace Go.Proofs.Ytghopnjkgelbkaa
open Go Go.Proofs.Ytghopnjkgelbkaa.DL
open Go.ChangeShapes Go.WideShapes Go.ChangeAt Go.RowKit
set_option maxRecDepth 100000

namespace Debt
theorem c_law {w : World'} (hw : w.ok) : CallD Try.prog F_laws_FnExactDebt [rWorld w] fun r _ => r = bS true := by
  refine k_laws_FnExactDebt ?_
  unfold vc_laws_FnExactDebt
  refine ⟨_, c_szWorld hw, fun _ => rfl, fun g => ?_⟩
  obtain ⟨-, hn, hq, -, -, hp1, hp2⟩ := World'.tot_le g
  have hT := c_toWorld g
  have hF := c_eqWorld_self g
  clear g
  have hok : ∀ n ∈ w.l, n.ok := hw.2.2.1.2
  have hqo : ∀ x ∈ w.q, x.ok := hw.2.2.2.1.2
  have hS := c_DebtS hn hok hq hqo
  have hI := c_Debt hn hq
  repeat' (first
    | trivial
    | exact hT
    | exact hF
    | exact hS
    | exact hI
    | (intro g; exfalso; revert g; simp; done)
    | intro _
    | apply And.intro
    | apply Exists.intro)

theorem lifted (os : Os) (started : os.Started) (H : Type) (enc : TypeId × Value → H) :
    ReturnsInHanded {} Try.checked os F_laws_FnExactDebt .any (Rows.fnExactDebtSpec.pre6 enc Try.prog Try.f14 Rows.fnExactDebtRow.domain false) (Rows.fnExactDebtSpec.post enc Try.prog Try.f14 false true false false) := by
  refine returnsInHanded_of_change (C := Try.checked) own started (by kernel_rfl) Try.func14
    (ChangeSpec.witness6 (enc := enc) (C := Try.checked) false ⟨#[], #[.agg #[.int .i64 0, .int .i64 0, .int .i64 0, .int .i64 0, .int .i64 0, .int .i64 0, .slice none 0 0, .slice none 0 0, .slice none 0 0, .slice none 0 0, .slice none 0 0, .slice none 0 0]], []⟩ 8 (by kernel_rfl) (by kernel_rfl) (by kernel_rfl) (by kernel_rfl)) ?_
  intro W base args ds gs before hval0 hW hcnd _
  refine law_row (bs := [true]) (bt := 4) laidOut shOk rfl (by kernel_rfl) (by kernel_rfl) (by kernel_rfl) (fun ds h => ?_) (by kernel_rfl) (by kernel_rfl) ?_ hW hval0
  · match ds, h with
    | [_], _ => rfl
  · have e : Try.f14.params.toList = [46] := by kernel_rfl
    rw [e]
    intro ds1 es1 he1 w1
    have e46 : sh 46 = some [.int .i64, .int .i64, .int .i64, .int .i64, .int .i64, .int .i64, .sl [.int .u8], .sl [.int .i64], .sl [.int .i64], .sl [.int .i64, .int .i64, .int .i64, .int .i64, .int .i64, .int .i64, .int .i64, .int .i64, .sl [.int .i64], .int .i64, .int .i64, .sl [.int .i64, .int .i64, .int .i64], .sl [.int .i64]], .sl [.int .i64, .int .i64, .sl [.int .i64], .sl [.int .i64], .int .i64], .sl [.int .i64]] := by kernel_rfl
    cases e46.symm.trans he1
    obtain ⟨w, rfl, hw⟩ := world_inv w1
    exact c_law hw
end Debt
theorem fnExactDebt_holds : Rows.FnExactDebtSaid :=
  OpenClaim.holds_of_wide F_laws_FnExactDebt Try.f14 rfl rfl rfl rfl rfl rfl rfl ⟨rfl, rfl, rfl, rfl, rfl⟩ rfl rfl rfl rfl rfl (by kernel_rfl) Try.func14 (by kernel_rfl)
    (of_decide_eq_true (by kernel_rfl)) (by unfold Func.isWrapper; first | (rw [if_pos (by decide +kernel)]; kernel_rfl) | (rw [if_neg (by decide +kernel)]; exact ⟨rfl, rfl⟩))
    (fun os started H enc _ => Debt.lifted os started H enc)
#print axioms fnExactDebt_holds
end Go.Proofs.Ytghopnjkgelbkaa
