/- The program's TreeOk returns what the reference's TreeOk returns, for all arguments: the law FnExactTreeOk says true of every table. No conditions. -/
import Derived.Test.YtmnfcahbmlfccaaHTr
import Derived.Test.YtmnfcahbmlfccaaVNB
import Derived.Test.YtmnfcahbmlfccaaRows
import Derived.Test.YtmnfcahbmlfccaaChecked
import Derived.ProofKit
namespace Go.Proofs.Ytmnfcahbmlfccaa
open Go Go.Proofs.Ytmnfcahbmlfccaa.DL
open Go.ChangeShapes Go.WideShapes Go.ChangeAt Go.RowKit
set_option maxRecDepth 100000

namespace TreeOk
theorem c_law {l : List Node} (hl : Nodes l) : CallD Try.prog F_laws_FnExactTreeOk [rNs l] fun r _ => r = bS true := by
  refine k_laws_FnExactTreeOk ?_
  unfold vc_laws_FnExactTreeOk
  refine ⟨_, c_szNodeS hl, fun _ => rfl, fun g => ?_⟩
  have hs : totN l ≤ 1048576 := by
    simp only [decide_eq_false_iff_not] at g
    split at g
    · rename_i h; exact h
    · exact absurd (by omega) g
  clear g
  have hz := szs_nonneg l
  have hll : l.length ≤ 1048576 := by unfold totN at hs; omega
  have hT := c_toNodeS hs
  have hS := c_TreeOkS hll hl.2
  have hI := c_TreeOk hll
  generalize treeB l = b at *
  have hF := c_eqNodeS_self hs
  cases b <;>
    repeat' (first
    | trivial
    | exact hT
    | exact hS
    | exact hI
    | exact hF
    | (intro g; exfalso; revert g; simp; done)
    | intro _
    | apply And.intro
    | apply Exists.intro)

theorem lifted (os : Os) (started : os.Started) (H : Type) (enc : TypeId × Value → H) :
    ReturnsInHanded {} Try.checked os F_laws_FnExactTreeOk .any (Rows.fnExactTreeOkSpec.pre6 enc Try.prog Try.f3 Rows.fnExactTreeOkRow.domain false) (Rows.fnExactTreeOkSpec.post enc Try.prog Try.f3 false true false false) := by
  refine returnsInHanded_of_change (C := Try.checked) own started (by kernel_rfl) Try.func3
    (ChangeSpec.witness6 (enc := enc) (C := Try.checked) false ⟨#[], #[.slice none 0 0], []⟩ 8 (by kernel_rfl) (by kernel_rfl) (by kernel_rfl) (by kernel_rfl)) ?_
  intro W base args ds gs before hval0 hW hcnd _
  refine law_row (bs := [false]) (bt := 4) laidOut shOk rfl (by kernel_rfl) (by kernel_rfl) (by kernel_rfl) (fun ds h => ?_) (by kernel_rfl) (by kernel_rfl) ?_ hW hval0
  · match ds, h with
    | [_], _ => rfl
  · have e : Try.f3.params.toList = [22] := by kernel_rfl
    rw [e]
    intro ds1 es1 he1 w1
    have e22 : sh 22 = some [.sl [.int .i64, .int .i64, .int .i64, .int .i64, .int .i64, .int .i64, .int .i64, .int .i64, .sl [.int .i64], .int .i64, .int .i64, .sl [.int .i64, .int .i64, .int .i64], .sl [.int .i64]]] := by kernel_rfl
    cases e22.symm.trans he1
    obtain ⟨d1, r1, rfl, k1, j1⟩ := cons_inv w1
    cases nil_inv j1
    obtain ⟨l, rfl, hl, hl'⟩ := nodes_inv k1
    exact c_law ⟨hl, hl'⟩
end TreeOk
theorem fnExactTreeOk_holds : Rows.FnExactTreeOkSaid :=
  OpenClaim.holds_of_wide F_laws_FnExactTreeOk Try.f3 rfl rfl rfl rfl rfl rfl rfl ⟨rfl, rfl, rfl, rfl, rfl⟩ rfl rfl rfl rfl rfl (by kernel_rfl) Try.func3 (by kernel_rfl)
    (of_decide_eq_true (by kernel_rfl)) (by unfold Func.isWrapper; first | (rw [if_pos (by decide +kernel)]; kernel_rfl) | (rw [if_neg (by decide +kernel)]; exact ⟨rfl, rfl⟩))
    (fun os started H enc _ => TreeOk.lifted os started H enc)
#print axioms fnExactTreeOk_holds
end Go.Proofs.Ytmnfcahbmlfccaa
