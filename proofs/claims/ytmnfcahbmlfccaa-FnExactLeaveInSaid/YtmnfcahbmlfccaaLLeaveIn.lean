/- The program's LeaveIn returns what the reference's LeaveIn returns, for all arguments: the law FnExactLeaveIn says true of every world and slot. No conditions. -/
import Derived.Test.YtmnfcahbmlfccaaHLv
import Derived.Test.YtmnfcahbmlfccaaVN1
import Derived.Test.YtmnfcahbmlfccaaRows
import Derived.Test.YtmnfcahbmlfccaaChecked
import Derived.ProofKit
namespace Go.Proofs.Ytmnfcahbmlfccaa
open Go Go.Proofs.Ytmnfcahbmlfccaa.DL
open Go.ChangeShapes Go.WideShapes Go.ChangeAt Go.RowKit
set_option maxRecDepth 100000

namespace LeaveIn
theorem c_law {w : World'} (hw : w.ok) (k : Int) : CallD Try.prog F_laws_FnExactLeaveIn [rWorld w, iS k] fun r _ => r = bS true := by
  refine k_laws_FnExactLeaveIn ?_
  unfold vc_laws_FnExactLeaveIn
  refine ⟨_, c_szWorld hw, fun _ => rfl, fun g => ?_⟩
  have hT := c_toWorld g
  have hF := c_eqWorld_self g
  obtain ⟨h1, h2⟩ := leaveInW_ok g k
  have hS := c_LeaveInS h1 k
  have hI := c_LeaveIn h1 k
  generalize leaveInW w k = r at *
  clear g
  have hM := c_markWorld h1.p h1.l h1.q h1.log (b := 1) (by omega) (by omega)
  have hm := mendW_le (w := w) (b := 1) (by omega)
  have hE := c_eqWorld_comp h2.p h2.l h2.q h2.log
  have hN := c_markWorld h2.p h2.l h2.q h2.log (b := 1) (by omega) (by omega)
  have hm' := mendW_le (w := r) (b := 1) (by omega)
  have hH := c_heldWorld h2.p h2.l h2.q h2.log
  clear h1 h2 hw
  repeat' (first
    | trivial
    | exact hT
    | exact hF
    | exact hS
    | exact hI
    | exact hE
    | exact hM
    | exact hN
    | exact hH
    | (intro g; exfalso; revert g; simp; done)
    | (intro g; exfalso; simp only [decide_eq_true_eq] at g; omega)
    | intro _
    | apply And.intro
    | apply Exists.intro)

theorem lifted (os : Os) (started : os.Started) (H : Type) (enc : TypeId × Value → H) :
    ReturnsInHanded {} Try.checked os F_laws_FnExactLeaveIn .any (Rows.fnExactLeaveInSpec.pre6 enc Try.prog Try.f13 Rows.fnExactLeaveInRow.domain false) (Rows.fnExactLeaveInSpec.post enc Try.prog Try.f13 false true false false) := by
  refine returnsInHanded_of_change (C := Try.checked) own started (by kernel_rfl) Try.func13
    (ChangeSpec.witness6 (enc := enc) (C := Try.checked) false ⟨#[], #[.agg #[.int .i64 0, .int .i64 0, .int .i64 0, .int .i64 0, .int .i64 0, .int .i64 0, .slice none 0 0, .slice none 0 0, .slice none 0 0, .slice none 0 0, .slice none 0 0, .slice none 0 0], .int .i64 0], []⟩ 8 (by kernel_rfl) (by kernel_rfl) (by kernel_rfl) (by kernel_rfl)) ?_
  intro W base args ds gs before hval0 hW hcnd _
  refine law_row (bs := [true, false]) (bt := 4) laidOut shOk rfl (by kernel_rfl) (by kernel_rfl) (by kernel_rfl) (fun ds h => ?_) (by kernel_rfl) (by kernel_rfl) ?_ hW hval0
  · match ds, h with
    | [_, _], _ => rfl
  · have e : Try.f13.params.toList = [57, 3] := by kernel_rfl
    rw [e]
    intro ds1 es1 he1 w1 ds2 es2 he2 w2
    have e57 : sh 57 = some [.int .i64, .int .i64, .int .i64, .int .i64, .int .i64, .int .i64, .sl [.int .u8], .sl [.int .i64], .sl [.int .i64], .sl [.int .i64, .int .i64, .int .i64, .int .i64, .int .i64, .int .i64, .int .i64, .int .i64, .sl [.int .i64], .int .i64, .int .i64, .sl [.int .i64, .int .i64, .int .i64], .sl [.int .i64]], .sl [.int .i64, .int .i64, .sl [.int .i64], .sl [.int .i64], .int .i64], .sl [.int .i64]] := by kernel_rfl
    cases e57.symm.trans he1
    have e3 : sh 3 = some [.int .i64] := by kernel_rfl
    cases e3.symm.trans he2
    obtain ⟨w, rfl, hw⟩ := world_inv w1
    obtain ⟨d2, r2, rfl, k2, j2⟩ := cons_inv w2
    cases nil_inv j2
    obtain ⟨k, rfl, hk⟩ := int_inv k2
    exact c_law hw k
end LeaveIn
theorem fnExactLeaveIn_holds : Rows.FnExactLeaveInSaid :=
  OpenClaim.holds_of_wide F_laws_FnExactLeaveIn Try.f13 rfl rfl rfl rfl rfl rfl rfl ⟨rfl, rfl, rfl, rfl, rfl⟩ rfl rfl rfl rfl rfl (by kernel_rfl) Try.func13 (by kernel_rfl)
    (of_decide_eq_true (by kernel_rfl)) (by unfold Func.isWrapper; first | (rw [if_pos (by decide +kernel)]; kernel_rfl) | (rw [if_neg (by decide +kernel)]; exact ⟨rfl, rfl⟩))
    (fun os started H enc _ => LeaveIn.lifted os started H enc)
#print axioms fnExactLeaveIn_holds
end Go.Proofs.Ytmnfcahbmlfccaa
