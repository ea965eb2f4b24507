/- The program's Unlink returns what the reference's Unlink returns, for all arguments: the law FnExactUnlink says true of every table and slot. No conditions. -/
import Derived.Test.YtmnfcahbmlfccaaHPb
import Derived.Test.YtmnfcahbmlfccaaVNC
import Derived.Test.YtmnfcahbmlfccaaRows
import Derived.Test.YtmnfcahbmlfccaaChecked
import Derived.ProofKit
namespace Go.Proofs.Ytmnfcahbmlfccaa
open Go Go.Proofs.Ytmnfcahbmlfccaa.DL
open Go.ChangeShapes Go.WideShapes Go.ChangeAt Go.RowKit
set_option maxRecDepth 100000

namespace Unlink
theorem c_law {l : List Node} (hl : Nodes l) {k : Int} (hk : I64 k) : CallD Try.prog F_laws_FnExactUnlink [rNs l, iS k] fun r _ => r = bS true := by
  refine k_laws_FnExactUnlink ?_
  unfold vc_laws_FnExactUnlink
  refine ⟨_, c_szNodeS hl, fun _ => rfl, fun g => ?_⟩
  have hs : totN l ≤ 1048576 := by
    simp only [decide_eq_false_iff_not] at g
    split at g
    · rename_i h; exact h
    · exact absurd (by omega) g
  clear g
  have hT := c_toNodeS hs
  have hS := c_UnlinkS hs hl.2 hk
  have hI := c_Unlink hs k
  obtain ⟨r, er, et⟩ := unlink_nods l k
  rw [er] at hS hI
  have hr : totN r ≤ 1048576 := by rw [et]; exact hs
  clear er et
  have hE := c_eqNodeS_self hr
  have hF := c_eqNodeS_self hs
  have hM := c_markNodeS hs (b := 1) (by omega) (by omega)
  have hm := (endNs_le l 1).1
  have hm' := (endNs_le r 1).1
  have hN := c_markNodeS hr (b := 1) (by omega) (by omega)
  have hH := c_heldNodeS hr (b := 1) (by omega) (by omega)
  repeat' (first
    | trivial
    | exact hT
    | exact hS
    | exact hI
    | exact hE
    | exact hF
    | exact hM
    | exact hN
    | exact hH
    | (intro g; exfalso; revert g; simp; done)
    | (intro g; exfalso; simp only [decide_eq_true_eq] at g; omega)
    | intro _
    | apply And.intro
    | apply Exists.intro)

theorem lifted (os : Os) (started : os.Started) (H : Type) (enc : TypeId × Value → H) :
    ReturnsInHanded {} Try.checked os F_laws_FnExactUnlink .any (Rows.fnExactUnlinkSpec.pre6 enc Try.prog Try.f4 Rows.fnExactUnlinkRow.domain false) (Rows.fnExactUnlinkSpec.post enc Try.prog Try.f4 false true false false) := by
  refine returnsInHanded_of_change (C := Try.checked) own started (by kernel_rfl) Try.func4
    (ChangeSpec.witness6 (enc := enc) (C := Try.checked) false ⟨#[], #[.slice none 0 0, .int .i64 0], []⟩ 8 (by kernel_rfl) (by kernel_rfl) (by kernel_rfl) (by kernel_rfl)) ?_
  intro W base args ds gs before hval0 hW hcnd _
  refine law_row (bs := [false, false]) (bt := 4) laidOut shOk rfl (by kernel_rfl) (by kernel_rfl) (by kernel_rfl) (fun ds h => ?_) (by kernel_rfl) (by kernel_rfl) ?_ hW hval0
  · match ds, h with
    | [_, _], _ => rfl
  · have e : Try.f4.params.toList = [22, 3] := by kernel_rfl
    rw [e]
    intro ds1 es1 he1 w1 ds2 es2 he2 w2
    have e22 : sh 22 = some [.sl [.int .i64, .int .i64, .int .i64, .int .i64, .int .i64, .int .i64, .int .i64, .int .i64, .sl [.int .i64], .int .i64, .int .i64, .sl [.int .i64, .int .i64, .int .i64], .sl [.int .i64]]] := by kernel_rfl
    cases e22.symm.trans he1
    have e3 : sh 3 = some [.int .i64] := by kernel_rfl
    cases e3.symm.trans he2
    obtain ⟨d1, r1, rfl, k1, j1⟩ := cons_inv w1
    cases nil_inv j1
    obtain ⟨l, rfl, hl, hl'⟩ := nodes_inv k1
    obtain ⟨d2, r2, rfl, k2, j2⟩ := cons_inv w2
    cases nil_inv j2
    obtain ⟨k, rfl, hk⟩ := int_inv k2
    exact c_law ⟨hl, hl'⟩ hk
end Unlink
theorem fnExactUnlink_holds : Rows.FnExactUnlinkSaid :=
  OpenClaim.holds_of_wide F_laws_FnExactUnlink Try.f4 rfl rfl rfl rfl rfl rfl rfl ⟨rfl, rfl, rfl, rfl, rfl⟩ rfl rfl rfl rfl rfl (by kernel_rfl) Try.func4 (by kernel_rfl)
    (of_decide_eq_true (by kernel_rfl)) (by unfold Func.isWrapper; first | (rw [if_pos (by decide +kernel)]; kernel_rfl) | (rw [if_neg (by decide +kernel)]; exact ⟨rfl, rfl⟩))
    (fun os started H enc _ => Unlink.lifted os started H enc)
#print axioms fnExactUnlink_holds
end Go.Proofs.Ytmnfcahbmlfccaa
