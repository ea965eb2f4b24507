/- The program's DebtOf returns what the reference's DebtOf returns, for all arguments: the law FnExactDebtOf says true of every world and slot. No conditions. -/
import Derived.Test.YtghopnjkgelbkaaHUV
import Derived.Test.YtghopnjkgelbkaaVN2
import Derived.Test.YtghopnjkgelbkaaRows
import Derived.Test.YtghopnjkgelbkaaChecked
import Derived.ProofKit
namespace Go.Proofs.Ytghopnjkgelbkaa
open Go Go.Proofs.Ytghopnjkgelbkaa.DL
open Go.ChangeShapes Go.WideShapes Go.ChangeAt Go.RowKit
set_option maxRecDepth 100000

namespace DebtOf
theorem c_law {w : World'} (hw : w.ok) (k : Int) : CallD Try.prog F_laws_FnExactDebtOf [rWorld w, iS k] fun r _ => r = bS true := by
  refine k_laws_FnExactDebtOf ?_
  unfold vc_laws_FnExactDebtOf
  refine ⟨_, c_szWorld hw, fun _ => rfl, fun g => ?_⟩
  obtain ⟨-, hn, hq, -, -, hp1, hp2⟩ := World'.tot_le g
  have hT := c_toWorld g
  have hF := c_eqWorld_self g
  clear g
  have hok : ∀ n ∈ w.l, n.ok := hw.2.2.1.2
  have hqo : ∀ x ∈ w.q, x.ok := hw.2.2.2.1.2
  have hS := c_DebtOfS hn hok k
  have hI := c_DebtOf hn k
  repeat' (first
    | trivial
    | exact hT
    | exact hF
    | exact hS
    | exact hI
    | (intro g; exfalso; revert g; simp; done)
    | intro _
    | apply And.intro
    | apply Exists.intro)

theorem lifted (os : Os) (started : os.Started) (H : Type) (enc : TypeId × Value → H) :
    ReturnsInHanded {} Try.checked os F_laws_FnExactDebtOf .any (Rows.fnExactDebtOfSpec.pre6 enc Try.prog Try.f9 Rows.fnExactDebtOfRow.domain false) (Rows.fnExactDebtOfSpec.post enc Try.prog Try.f9 false true false false) := by
  refine returnsInHanded_of_change (C := Try.checked) own started (by kernel_rfl) Try.func9
    (ChangeSpec.witness6 (enc := enc) (C := Try.checked) false ⟨#[], #[.agg #[.int .i64 0, .int .i64 0, .int .i64 0, .int .i64 0, .int .i64 0, .int .i64 0, .slice none 0 0, .slice none 0 0, .slice none 0 0, .slice none 0 0, .slice none 0 0, .slice none 0 0], .int .i64 0], []⟩ 8 (by kernel_rfl) (by kernel_rfl) (by kernel_rfl) (by kernel_rfl)) ?_
  intro W base args ds gs before hval0 hW hcnd _
  refine law_row (bs := [true, false]) (bt := 4) laidOut shOk rfl (by kernel_rfl) (by kernel_rfl) (by kernel_rfl) (fun ds h => ?_) (by kernel_rfl) (by kernel_rfl) ?_ hW hval0
  · match ds, h with
    | [_, _], _ => rfl
  · have e : Try.f9.params.toList = [46, 3] := by kernel_rfl
    rw [e]
    intro ds1 es1 he1 w1 ds2 es2 he2 w2
    have e46 : sh 46 = some [.int .i64, .int .i64, .int .i64, .int .i64, .int .i64, .int .i64, .sl [.int .u8], .sl [.int .i64], .sl [.int .i64], .sl [.int .i64, .int .i64, .int .i64, .int .i64, .int .i64, .int .i64, .int .i64, .int .i64, .sl [.int .i64], .int .i64, .int .i64, .sl [.int .i64, .int .i64, .int .i64], .sl [.int .i64]], .sl [.int .i64, .int .i64, .sl [.int .i64], .sl [.int .i64], .int .i64], .sl [.int .i64]] := by kernel_rfl
    cases e46.symm.trans he1
    have e3 : sh 3 = some [.int .i64] := by kernel_rfl
    cases e3.symm.trans he2
    obtain ⟨w, rfl, hw⟩ := world_inv w1
    obtain ⟨d2, r2, rfl, k2, j2⟩ := cons_inv w2
    cases nil_inv j2
    obtain ⟨k, rfl, hk⟩ := int_inv k2
    exact c_law hw k
end DebtOf
theorem fnExactDebtOf_holds : Rows.FnExactDebtOfSaid :=
  OpenClaim.holds_of_wide F_laws_FnExactDebtOf Try.f9 rfl rfl rfl rfl rfl rfl rfl ⟨rfl, rfl, rfl, rfl, rfl⟩ rfl rfl rfl rfl rfl (by kernel_rfl) Try.func9 (by kernel_rfl)
    (of_decide_eq_true (by kernel_rfl)) (by unfold Func.isWrapper; first | (rw [if_pos (by decide +kernel)]; kernel_rfl) | (rw [if_neg (by decide +kernel)]; exact ⟨rfl, rfl⟩))
    (fun os started H enc _ => DebtOf.lifted os started H enc)
#print axioms fnExactDebtOf_holds
end Go.Proofs.Ytghopnjkgelbkaa
