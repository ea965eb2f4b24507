/- The program's WorthOf returns what the reference's WorthOf returns, for all arguments: the law FnExactWorthOf says true of every world and slot. No conditions. -/
import Derived.Test.YtmnfcahbmlfccaaHY
import Derived.Test.YtmnfcahbmlfccaaVN3
import Derived.Test.YtmnfcahbmlfccaaRows
import Derived.Test.YtmnfcahbmlfccaaChecked
import Derived.ProofKit
namespace Go.Proofs.Ytmnfcahbmlfccaa
open Go Go.Proofs.Ytmnfcahbmlfccaa.DL
open Go.ChangeShapes Go.WideShapes Go.ChangeAt Go.RowKit
set_option maxRecDepth 100000

namespace WorthOf
theorem c_law {w : World'} (hw : w.ok) (k : Int) : CallD Try.prog F_laws_FnExactWorthOf [rWorld w, iS k] fun r _ => r = bS true := by
  refine k_laws_FnExactWorthOf ?_
  unfold vc_laws_FnExactWorthOf
  refine ⟨_, c_szWorld hw, fun _ => rfl, fun g => ?_⟩
  obtain ⟨-, hn, hq, -, -, hp1, hp2⟩ := World'.tot_le g
  have hT := c_toWorld g
  have hF := c_eqWorld_self g
  clear g
  have hok : ∀ n ∈ w.l, n.ok := hw.2.2.1.2
  have hS := c_WorthOfS hn hok k
  have hI := c_WorthOf hn k
  repeat' (first
    | trivial
    | exact hT
    | exact hF
    | exact hS
    | exact hI
    | (intro g; exfalso; revert g; simp; done)
    | intro _
    | apply And.intro
    | apply Exists.intro)

theorem lifted (os : Os) (started : os.Started) (H : Type) (enc : TypeId × Value → H) :
    ReturnsInHanded {} Try.checked os F_laws_FnExactWorthOf .any (Rows.fnExactWorthOfSpec.pre6 enc Try.prog Try.f7 Rows.fnExactWorthOfRow.domain false) (Rows.fnExactWorthOfSpec.post enc Try.prog Try.f7 false true false false) := by
  refine returnsInHanded_of_change (C := Try.checked) own started (by kernel_rfl) Try.func7
    (ChangeSpec.witness6 (enc := enc) (C := Try.checked) false ⟨#[], #[.agg #[.int .i64 0, .int .i64 0, .int .i64 0, .int .i64 0, .int .i64 0, .int .i64 0, .slice none 0 0, .slice none 0 0, .slice none 0 0, .slice none 0 0, .slice none 0 0, .slice none 0 0], .int .i64 0], []⟩ 8 (by kernel_rfl) (by kernel_rfl) (by kernel_rfl) (by kernel_rfl)) ?_
  intro W base args ds gs before hval0 hW hcnd _
  refine law_row (bs := [true, false]) (bt := 4) laidOut shOk rfl (by kernel_rfl) (by kernel_rfl) (by kernel_rfl) (fun ds h => ?_) (by kernel_rfl) (by kernel_rfl) ?_ hW hval0
  · match ds, h with
    | [_, _], _ => rfl
  · have e : Try.f7.params.toList = [57, 3] := by kernel_rfl
    rw [e]
    intro ds1 es1 he1 w1 ds2 es2 he2 w2
    have e57 : sh 57 = some [.int .i64, .int .i64, .int .i64, .int .i64, .int .i64, .int .i64, .sl [.int .u8], .sl [.int .i64], .sl [.int .i64], .sl [.int .i64, .int .i64, .int .i64, .int .i64, .int .i64, .int .i64, .int .i64, .int .i64, .sl [.int .i64], .int .i64, .int .i64, .sl [.int .i64, .int .i64, .int .i64], .sl [.int .i64]], .sl [.int .i64, .int .i64, .sl [.int .i64], .sl [.int .i64], .int .i64], .sl [.int .i64]] := by kernel_rfl
    cases e57.symm.trans he1
    have e3 : sh 3 = some [.int .i64] := by kernel_rfl
    cases e3.symm.trans he2
    obtain ⟨w, rfl, hw⟩ := world_inv w1
    obtain ⟨d2, r2, rfl, k2, j2⟩ := cons_inv w2
    cases nil_inv j2
    obtain ⟨k, rfl, hk⟩ := int_inv k2
    exact c_law hw k
end WorthOf
theorem fnExactWorthOf_holds : Rows.FnExactWorthOfSaid :=
  OpenClaim.holds_of_wide F_laws_FnExactWorthOf Try.f7 rfl rfl rfl rfl rfl rfl rfl ⟨rfl, rfl, rfl, rfl, rfl⟩ rfl rfl rfl rfl rfl (by kernel_rfl) Try.func7 (by kernel_rfl)
    (of_decide_eq_true (by kernel_rfl)) (by unfold Func.isWrapper; first | (rw [if_pos (by decide +kernel)]; kernel_rfl) | (rw [if_neg (by decide +kernel)]; exact ⟨rfl, rfl⟩))
    (fun os started H enc _ => WorthOf.lifted os started H enc)
#print axioms fnExactWorthOf_holds
end Go.Proofs.Ytmnfcahbmlfccaa
