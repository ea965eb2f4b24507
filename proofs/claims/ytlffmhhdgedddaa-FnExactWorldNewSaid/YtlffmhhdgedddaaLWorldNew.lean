/- The program's WorldNew returns what the reference's WorldNew returns, for all arguments: the law FnExactWorldNew says true of every configuration. No conditions. -/
import Derived.Test.YtlffmhhdgedddaaHWm
import Derived.Test.YtlffmhhdgedddaaHWl
import Derived.Test.YtlffmhhdgedddaaVN1
import Derived.Test.YtlffmhhdgedddaaRows
import Derived.Test.YtlffmhhdgedddaaChecked
import Derived.ProofKit
namespace Go.Proofs.Ytlffmhhdgedddaa
open Go Go.Proofs.Ytlffmhhdgedddaa.DL
open Go.ChangeShapes Go.WideShapes Go.ChangeAt Go.RowKit
set_option maxRecDepth 100000

namespace WorldNew
theorem c_law (c : Conf) : CallD Try.prog F_laws_FnExactWorldNew [confS c] fun r _ => r = bS true := by
  refine k_laws_FnExactWorldNew ?_
  unfold vc_laws_FnExactWorldNew
  have hT := c_toConf c
  have hS := c_WorldNewS c
  have hI := c_WorldNew c
  obtain ⟨h1, h2, h3, h4⟩ := newW_small c
  have hE := c_eqWorld_self (w := newW c) (by unfold lf totW; rw [if_pos (by omega)]; exact decide_eq_false (by omega))
  have hM := c_markWorld (w := newW c) (by omega) (by omega) (by omega) (by omega) (b := 1) (by omega) (by omega)
  have hm := mendW_le (w := newW c) (b := 1) (by omega)
  have hH := c_heldWorld (w := newW c) (by omega) (by omega) (by omega) (by omega)
  clear h1 h2 h3 h4
  generalize newW c = w at *
  repeat' (first
    | trivial
    | exact hT
    | exact hS
    | exact hI
    | exact hE
    | exact hM
    | exact hH
    | (intro g; exfalso; revert g; simp; done)
    | (intro g; exfalso; simp only [decide_eq_true_eq] at g; omega)
    | intro _
    | apply And.intro
    | apply Exists.intro)

theorem lifted (os : Os) (started : os.Started) (H : Type) (enc : TypeId × Value → H) :
    ReturnsInHanded {} Try.checked os F_laws_FnExactWorldNew .any (Rows.fnExactWorldNewSpec.pre6 enc Try.prog Try.f3 Rows.fnExactWorldNewRow.domain false) (Rows.fnExactWorldNewSpec.post enc Try.prog Try.f3 false true false false) := by
  refine returnsInHanded_of_change (C := Try.checked) own started (by kernel_rfl) Try.func3
    (ChangeSpec.witness6 (enc := enc) (C := Try.checked) false ⟨#[], #[.agg #[.int .i64 0, .int .i64 0, .int .i64 0, .int .i64 0, .int .i64 0, .int .i64 0]], []⟩ 8 (by kernel_rfl) (by kernel_rfl) (by kernel_rfl) (by kernel_rfl)) ?_
  intro W base args ds gs before hval0 hW hcnd _
  refine law_row (bs := [true]) (bt := 4) laidOut shOk rfl (by kernel_rfl) (by kernel_rfl) (by kernel_rfl) (fun ds h => ?_) (by kernel_rfl) (by kernel_rfl) ?_ hW hval0
  · match ds, h with
    | [_], _ => rfl
  · have e : Try.f3.params.toList = [23] := by kernel_rfl
    rw [e]
    intro ds1 es1 he1 w1
    have e23 : sh 23 = some [.int .i64, .int .i64, .int .i64, .int .i64, .int .i64, .int .i64] := by kernel_rfl
    cases e23.symm.trans he1
    obtain ⟨c, rfl, hc⟩ := conf_inv w1
    exact c_law c
end WorldNew
theorem fnExactWorldNew_holds : Rows.FnExactWorldNewSaid :=
  OpenClaim.holds_of_wide F_laws_FnExactWorldNew Try.f3 rfl rfl rfl rfl rfl rfl rfl ⟨rfl, rfl, rfl, rfl, rfl⟩ rfl rfl rfl rfl rfl (by kernel_rfl) Try.func3 (by kernel_rfl)
    (of_decide_eq_true (by kernel_rfl)) (by unfold Func.isWrapper; first | (rw [if_pos (by decide +kernel)]; kernel_rfl) | (rw [if_neg (by decide +kernel)]; exact ⟨rfl, rfl⟩))
    (fun os started H enc _ => WorldNew.lifted os started H enc)
#print axioms fnExactWorldNew_holds
end Go.Proofs.Ytlffmhhdgedddaa
