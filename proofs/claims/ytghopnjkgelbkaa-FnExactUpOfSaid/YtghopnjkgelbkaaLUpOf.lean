/- The program's UpOf returns what the reference's UpOf returns, for all arguments: the law FnExactUpOf says true of every world and handle. No conditions. -/
import Derived.Test.YtghopnjkgelbkaaHT
import Derived.Test.YtghopnjkgelbkaaRows
import Derived.Test.YtghopnjkgelbkaaChecked
import Derived.ProofKit
namespace Go.Proofs.Ytghopnjkgelbkaa
open Go Go.Proofs.Ytghopnjkgelbkaa.DL
open Go.ChangeShapes Go.WideShapes Go.ChangeAt Go.RowKit
set_option maxRecDepth 100000

namespace UpOf
theorem c_eqH (h : Handle) : CallD Try.prog F_laws_eqHandle [handleS h, handleS h] fun r _ => r = bS true := by
  refine k_laws_eqHandle ?_
  unfold vc_laws_eqHandle
  exact ⟨fun g => absurd g (by simp), fun _ => ⟨fun g => absurd g (by simp), fun _ => rfl⟩⟩
theorem c_law {w : World'} (hw : w.ok) {h : Handle} (hh : h.ok) : CallD Try.prog F_laws_FnExactUpOf [rWorld w, handleS h] fun r _ => r = bS true := by
  refine k_laws_FnExactUpOf ?_
  unfold vc_laws_FnExactUpOf
  refine ⟨_, c_szWorld hw, fun _ => rfl, fun g => ?_⟩
  have hl : w.l.length ≤ 1048576 := by
    obtain ⟨-, h2, -⟩ := World'.tot_le g
    have := szs_nonneg w.l
    unfold totN at h2; omega
  have hT := c_toWorld g
  have hF := c_eqWorld_self g
  clear g
  have hok : ∀ n ∈ w.l, n.ok := hw.2.2.1.2
  have hS := c_UpOfS hl hok hh
  have hI := c_UpOf hl hh
  have hU := c_toHandle h
  have hE := c_eqH (upH w h)
  simp only [tUp] at hS hI
  generalize upH w h = x at *
  generalize upB w h = b at *
  clear hl hok
  cases b <;>
    repeat' (first
    | trivial
    | exact hT
    | exact hF
    | exact hS
    | exact hI
    | exact hU
    | exact hE
    | (intro g; exfalso; revert g; simp; done)
    | intro _
    | apply And.intro
    | apply Exists.intro)

theorem lifted (os : Os) (started : os.Started) (H : Type) (enc : TypeId × Value → H) :
    ReturnsInHanded {} Try.checked os F_laws_FnExactUpOf .any (Rows.fnExactUpOfSpec.pre6 enc Try.prog Try.f10 Rows.fnExactUpOfRow.domain false) (Rows.fnExactUpOfSpec.post enc Try.prog Try.f10 false true false false) := by
  refine returnsInHanded_of_change (C := Try.checked) own started (by kernel_rfl) Try.func10
    (ChangeSpec.witness6 (enc := enc) (C := Try.checked) false ⟨#[], #[.agg #[.int .i64 0, .int .i64 0, .int .i64 0, .int .i64 0, .int .i64 0, .int .i64 0, .slice none 0 0, .slice none 0 0, .slice none 0 0, .slice none 0 0, .slice none 0 0, .slice none 0 0], .agg #[.int .i64 0, .int .i64 0]], []⟩ 8 (by kernel_rfl) (by kernel_rfl) (by kernel_rfl) (by kernel_rfl)) ?_
  intro W base args ds gs before hval0 hW hcnd _
  refine law_row (bs := [true, true]) (bt := 4) laidOut shOk rfl (by kernel_rfl) (by kernel_rfl) (by kernel_rfl) (fun ds h => ?_) (by kernel_rfl) (by kernel_rfl) ?_ hW hval0
  · match ds, h with
    | [_, _], _ => rfl
  · have e : Try.f10.params.toList = [46, 57] := by kernel_rfl
    rw [e]
    intro ds1 es1 he1 w1 ds2 es2 he2 w2
    have e46 : sh 46 = some [.int .i64, .int .i64, .int .i64, .int .i64, .int .i64, .int .i64, .sl [.int .u8], .sl [.int .i64], .sl [.int .i64], .sl [.int .i64, .int .i64, .int .i64, .int .i64, .int .i64, .int .i64, .int .i64, .int .i64, .sl [.int .i64], .int .i64, .int .i64, .sl [.int .i64, .int .i64, .int .i64], .sl [.int .i64]], .sl [.int .i64, .int .i64, .sl [.int .i64], .sl [.int .i64], .int .i64], .sl [.int .i64]] := by kernel_rfl
    cases e46.symm.trans he1
    have e57 : sh 57 = some [.int .i64, .int .i64] := by kernel_rfl
    cases e57.symm.trans he2
    obtain ⟨w, rfl, hw⟩ := world_inv w1
    obtain ⟨h, rfl, hh⟩ := handle_inv w2
    exact c_law hw hh
end UpOf
theorem fnExactUpOf_holds : Rows.FnExactUpOfSaid :=
  OpenClaim.holds_of_wide F_laws_FnExactUpOf Try.f10 rfl rfl rfl rfl rfl rfl rfl ⟨rfl, rfl, rfl, rfl, rfl⟩ rfl rfl rfl rfl rfl (by kernel_rfl) Try.func10 (by kernel_rfl)
    (of_decide_eq_true (by kernel_rfl)) (by unfold Func.isWrapper; first | (rw [if_pos (by decide +kernel)]; kernel_rfl) | (rw [if_neg (by decide +kernel)]; exact ⟨rfl, rfl⟩))
    (fun os started H enc _ => UpOf.lifted os started H enc)
#print axioms fnExactUpOf_holds
end Go.Proofs.Ytghopnjkgelbkaa
