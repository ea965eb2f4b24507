/- The program's ThingsIn returns what the reference's ThingsIn returns, for all arguments: the law FnExactThingsIn says true of every world and handle. No conditions. -/
import Derived.Test.YtmnfcahbmlfccaaHZ
import Derived.Test.YtmnfcahbmlfccaaHW
import Derived.Test.YtmnfcahbmlfccaaVN7
import Derived.Test.YtmnfcahbmlfccaaRows
import Derived.Test.YtmnfcahbmlfccaaChecked
import Derived.ProofKit
namespace Go.Proofs.Ytmnfcahbmlfccaa
open Go Go.Proofs.Ytmnfcahbmlfccaa.DL
open Go.ChangeShapes Go.WideShapes Go.ChangeAt Go.RowKit
set_option maxRecDepth 100000

namespace ThingsIn
theorem c_law {w : World'} (hw : w.ok) {h : Handle} (hh : h.ok) : CallD Try.prog F_laws_FnExactThingsIn [rWorld w, handleS h] fun r _ => r = bS true := by
  refine k_laws_FnExactThingsIn ?_
  unfold vc_laws_FnExactThingsIn
  refine ⟨_, c_szWorld hw, fun _ => rfl, fun g => ?_⟩
  obtain ⟨hpp, hn, hq, hlg, -, hp1, hp2⟩ := World'.tot_le g
  have hM := c_markWorld hpp hn hq hlg (b := 1) (by omega) (by omega)
  have hm := mendW_le (w := w) (b := 1) (by omega)
  have hT := c_toWorld g
  have hF := c_eqWorld_self g
  clear g
  have hok : ∀ n ∈ w.l, n.ok := hw.2.2.1.2
  have hz := szs_nonneg w.l
  have hS := c_ThingsInS hn hok hh
  have hI := c_ThingsIn hn hh
  have hr := thingsIn_len hn h
  generalize thingsIn w h = r at *
  have hE := c_eqRefS hr
  have hN := c_markRefS hr (b := 1) (by omega) (by omega)
  have hH := c_heldRefS (n := r.length) hr (b := 1) (by omega) (by omega)
  have hU := c_toHandle h
  repeat' (first
    | trivial
    | exact hT
    | exact hF
    | exact hS
    | exact hI
    | exact hE
    | exact hM
    | exact hN
    | exact hH
    | exact hU
    | (intro g; exfalso; revert g; simp; done)
    | (intro g; exfalso; simp only [decide_eq_true_eq] at g; omega)
    | intro _
    | apply And.intro
    | apply Exists.intro)

theorem lifted (os : Os) (started : os.Started) (H : Type) (enc : TypeId × Value → H) :
    ReturnsInHanded {} Try.checked os F_laws_FnExactThingsIn .any (Rows.fnExactThingsInSpec.pre6 enc Try.prog Try.f12 Rows.fnExactThingsInRow.domain false) (Rows.fnExactThingsInSpec.post enc Try.prog Try.f12 false true false false) := by
  refine returnsInHanded_of_change (C := Try.checked) own started (by kernel_rfl) Try.func12
    (ChangeSpec.witness6 (enc := enc) (C := Try.checked) false ⟨#[], #[.agg #[.int .i64 0, .int .i64 0, .int .i64 0, .int .i64 0, .int .i64 0, .int .i64 0, .slice none 0 0, .slice none 0 0, .slice none 0 0, .slice none 0 0, .slice none 0 0, .slice none 0 0], .agg #[.int .i64 0, .int .i64 0]], []⟩ 8 (by kernel_rfl) (by kernel_rfl) (by kernel_rfl) (by kernel_rfl)) ?_
  intro W base args ds gs before hval0 hW hcnd _
  refine law_row (bs := [true, true]) (bt := 4) laidOut shOk rfl (by kernel_rfl) (by kernel_rfl) (by kernel_rfl) (fun ds h => ?_) (by kernel_rfl) (by kernel_rfl) ?_ hW hval0
  · match ds, h with
    | [_, _], _ => rfl
  · have e : Try.f12.params.toList = [57, 75] := by kernel_rfl
    rw [e]
    intro ds1 es1 he1 w1 ds2 es2 he2 w2
    have e57 : sh 57 = some [.int .i64, .int .i64, .int .i64, .int .i64, .int .i64, .int .i64, .sl [.int .u8], .sl [.int .i64], .sl [.int .i64], .sl [.int .i64, .int .i64, .int .i64, .int .i64, .int .i64, .int .i64, .int .i64, .int .i64, .sl [.int .i64], .int .i64, .int .i64, .sl [.int .i64, .int .i64, .int .i64], .sl [.int .i64]], .sl [.int .i64, .int .i64, .sl [.int .i64], .sl [.int .i64], .int .i64], .sl [.int .i64]] := by kernel_rfl
    cases e57.symm.trans he1
    have e75 : sh 75 = some [.int .i64, .int .i64] := by kernel_rfl
    cases e75.symm.trans he2
    obtain ⟨w, rfl, hw⟩ := world_inv w1
    obtain ⟨h, rfl, hh⟩ := handle_inv w2
    exact c_law hw hh
end ThingsIn
theorem fnExactThingsIn_holds : Rows.FnExactThingsInSaid :=
  OpenClaim.holds_of_wide F_laws_FnExactThingsIn Try.f12 rfl rfl rfl rfl rfl rfl rfl ⟨rfl, rfl, rfl, rfl, rfl⟩ rfl rfl rfl rfl rfl (by kernel_rfl) Try.func12 (by kernel_rfl)
    (of_decide_eq_true (by kernel_rfl)) (by unfold Func.isWrapper; first | (rw [if_pos (by decide +kernel)]; kernel_rfl) | (rw [if_neg (by decide +kernel)]; exact ⟨rfl, rfl⟩))
    (fun os started H enc _ => ThingsIn.lifted os started H enc)
#print axioms fnExactThingsIn_holds
end Go.Proofs.Ytmnfcahbmlfccaa
