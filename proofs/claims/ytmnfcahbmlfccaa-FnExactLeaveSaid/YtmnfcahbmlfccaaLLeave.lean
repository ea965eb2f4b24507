/- The program's Leave returns what the reference's Leave returns, for all arguments: the law FnExactLeave says true of every world and slot. No conditions. -/
import Derived.Test.YtmnfcahbmlfccaaHLw
import Derived.Test.YtmnfcahbmlfccaaVN2
import Derived.Test.YtmnfcahbmlfccaaRows
import Derived.Test.YtmnfcahbmlfccaaChecked
import Derived.ProofKit
namespace Go.Proofs.Ytmnfcahbmlfccaa
open Go Go.Proofs.Ytmnfcahbmlfccaa.DL
open Go.ChangeShapes Go.WideShapes Go.ChangeAt Go.RowKit
set_option maxRecDepth 100000

namespace Leave
theorem c_law {w : World'} (hw : w.ok) (k : Int) : CallD Try.prog F_laws_FnExactLeave [rWorld w, iS k] fun r _ => r = bS true := by
  refine k_laws_FnExactLeave ?_
  unfold vc_laws_FnExactLeave
  refine ⟨_, c_szWorld hw, fun _ => rfl, fun g => ?_⟩
  have hT := c_toWorld g
  have hF := c_eqWorld_self g
  obtain ⟨l, hl, hl2, hll⟩ := unlink_ex w.l k
  obtain ⟨h1, h2⟩ := leaveW_ok g k hl2 hll
  have hok : ∀ n ∈ w.l, n.ok := hw.2.2.1.2
  have hS := c_LeaveS h1 hok k hl hll
  have hI := c_Leave h1 k hl hll
  clear hok hl hl2 hll
  generalize leaveW w k l = r at *
  clear g
  have hM := c_markWorld h1.p h1.l h1.q h1.log (b := 1) (by omega) (by omega)
  have hm := mendW_le (w := w) (b := 1) (by omega)
  have hE := c_eqWorld_comp h2.p h2.l h2.q h2.log
  have hN := c_markWorld h2.p h2.l h2.q h2.log (b := 1) (by omega) (by omega)
  have hm' := mendW_le (w := r) (b := 1) (by omega)
  have hH := c_heldWorld h2.p h2.l h2.q h2.log
  clear h1 h2 hw
  repeat' (first
    | trivial
    | exact hT
    | exact hF
    | exact hS
    | exact hI
    | exact hE
    | exact hM
    | exact hN
    | exact hH
    | (intro g; exfalso; revert g; simp; done)
    | (intro g; exfalso; simp only [decide_eq_true_eq] at g; omega)
    | intro _
    | apply And.intro
    | apply Exists.intro)

theorem lifted (os : Os) (started : os.Started) (H : Type) (enc : TypeId × Value → H) :
    ReturnsInHanded {} Try.checked os F_laws_FnExactLeave .any (Rows.fnExactLeaveSpec.pre6 enc Try.prog Try.f14 Rows.fnExactLeaveRow.domain false) (Rows.fnExactLeaveSpec.post enc Try.prog Try.f14 false true false false) := by
  refine returnsInHanded_of_change (C := Try.checked) own started (by kernel_rfl) Try.func14
    (ChangeSpec.witness6 (enc := enc) (C := Try.checked) false ⟨#[], #[.agg #[.int .i64 0, .int .i64 0, .int .i64 0, .int .i64 0, .int .i64 0, .int .i64 0, .slice none 0 0, .slice none 0 0, .slice none 0 0, .slice none 0 0, .slice none 0 0, .slice none 0 0], .int .i64 0], []⟩ 8 (by kernel_rfl) (by kernel_rfl) (by kernel_rfl) (by kernel_rfl)) ?_
  intro W base args ds gs before hval0 hW hcnd _
  refine law_row (bs := [true, false]) (bt := 4) laidOut shOk rfl (by kernel_rfl) (by kernel_rfl) (by kernel_rfl) (fun ds h => ?_) (by kernel_rfl) (by kernel_rfl) ?_ hW hval0
  · match ds, h with
    | [_, _], _ => rfl
  · have e : Try.f14.params.toList = [57, 3] := by kernel_rfl
    rw [e]
    intro ds1 es1 he1 w1 ds2 es2 he2 w2
    have e57 : sh 57 = some [.int .i64, .int .i64, .int .i64, .int .i64, .int .i64, .int .i64, .sl [.int .u8], .sl [.int .i64], .sl [.int .i64], .sl [.int .i64, .int .i64, .int .i64, .int .i64, .int .i64, .int .i64, .int .i64, .int .i64, .sl [.int .i64], .int .i64, .int .i64, .sl [.int .i64, .int .i64, .int .i64], .sl [.int .i64]], .sl [.int .i64, .int .i64, .sl [.int .i64], .sl [.int .i64], .int .i64], .sl [.int .i64]] := by kernel_rfl
    cases e57.symm.trans he1
    have e3 : sh 3 = some [.int .i64] := by kernel_rfl
    cases e3.symm.trans he2
    obtain ⟨w, rfl, hw⟩ := world_inv w1
    obtain ⟨d2, r2, rfl, k2, j2⟩ := cons_inv w2
    cases nil_inv j2
    obtain ⟨k, rfl, hk⟩ := int_inv k2
    exact c_law hw k
end Leave
theorem fnExactLeave_holds : Rows.FnExactLeaveSaid :=
  OpenClaim.holds_of_wide F_laws_FnExactLeave Try.f14 rfl rfl rfl rfl rfl rfl rfl ⟨rfl, rfl, rfl, rfl, rfl⟩ rfl rfl rfl rfl rfl (by kernel_rfl) Try.func14 (by kernel_rfl)
    (of_decide_eq_true (by kernel_rfl)) (by unfold Func.isWrapper; first | (rw [if_pos (by decide +kernel)]; kernel_rfl) | (rw [if_neg (by decide +kernel)]; exact ⟨rfl, rfl⟩))
    (fun os started H enc _ => Leave.lifted os started H enc)
#print axioms fnExactLeave_holds
end Go.Proofs.Ytmnfcahbmlfccaa
