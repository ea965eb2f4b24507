/- The program's RoomsIn returns what the reference's RoomsIn returns, for all arguments: the law FnExactRoomsIn says true of every world. No conditions. -/
import Derived.Test.YtmnfcahbmlfccaaHT
import Derived.Test.YtmnfcahbmlfccaaHW
import Derived.Test.YtmnfcahbmlfccaaVN4
import Derived.Test.YtmnfcahbmlfccaaRows
import Derived.Test.YtmnfcahbmlfccaaChecked
import Derived.ProofKit
namespace Go.Proofs.Ytmnfcahbmlfccaa
open Go Go.Proofs.Ytmnfcahbmlfccaa.DL
open Go.ChangeShapes Go.WideShapes Go.ChangeAt Go.RowKit
set_option maxRecDepth 100000

namespace RoomsIn
theorem c_law {w : World'} (hw : w.ok) : CallD Try.prog F_laws_FnExactRoomsIn [rWorld w] fun r _ => r = bS true := by
  refine k_laws_FnExactRoomsIn ?_
  unfold vc_laws_FnExactRoomsIn
  refine ⟨_, c_szWorld hw, fun _ => rfl, fun g => ?_⟩
  obtain ⟨hpp, hn, hq, hlg, -, hp1, hp2⟩ := World'.tot_le g
  have hM := c_markWorld hpp hn hq hlg (b := 1) (by omega) (by omega)
  have hm := mendW_le (w := w) (b := 1) (by omega)
  have hT := c_toWorld g
  have hF := c_eqWorld_self g
  clear g
  have hok : ∀ n ∈ w.l, n.ok := hw.2.2.1.2
  have hz := szs_nonneg w.l
  have hl : w.l.length ≤ 1048576 := by unfold totN at hn; omega
  have hS := c_RoomsInS hl hok
  have hI := c_RoomsIn hl
  have hr : (roomsL w.l w.l.length).length ≤ 1048576 := Nat.le_trans (rooms_le _ _) hl
  generalize roomsL w.l w.l.length = r at *
  have hE := c_eqIntS (a := r) (b := r) (by unfold M63; omega)
  have hN := c_markI hr (b := 1) (by omega) (by unfold M40; omega)
  have hH := c_heldI (n := r.length) hr (b := 1) (by omega) (by unfold M40; omega)
  repeat' (first
    | trivial
    | exact hT
    | exact hF
    | exact hS
    | exact hI
    | exact hE
    | exact hM
    | exact hN
    | exact hH
    | (intro g; exfalso; revert g; simp; done)
    | (intro g; exfalso; simp only [decide_eq_true_eq] at g; omega)
    | intro _
    | apply And.intro
    | apply Exists.intro)

theorem lifted (os : Os) (started : os.Started) (H : Type) (enc : TypeId × Value → H) :
    ReturnsInHanded {} Try.checked os F_laws_FnExactRoomsIn .any (Rows.fnExactRoomsInSpec.pre6 enc Try.prog Try.f8 Rows.fnExactRoomsInRow.domain false) (Rows.fnExactRoomsInSpec.post enc Try.prog Try.f8 false true false false) := by
  refine returnsInHanded_of_change (C := Try.checked) own started (by kernel_rfl) Try.func8
    (ChangeSpec.witness6 (enc := enc) (C := Try.checked) false ⟨#[], #[.agg #[.int .i64 0, .int .i64 0, .int .i64 0, .int .i64 0, .int .i64 0, .int .i64 0, .slice none 0 0, .slice none 0 0, .slice none 0 0, .slice none 0 0, .slice none 0 0, .slice none 0 0]], []⟩ 8 (by kernel_rfl) (by kernel_rfl) (by kernel_rfl) (by kernel_rfl)) ?_
  intro W base args ds gs before hval0 hW hcnd _
  refine law_row (bs := [true]) (bt := 4) laidOut shOk rfl (by kernel_rfl) (by kernel_rfl) (by kernel_rfl) (fun ds h => ?_) (by kernel_rfl) (by kernel_rfl) ?_ hW hval0
  · match ds, h with
    | [_], _ => rfl
  · have e : Try.f8.params.toList = [57] := by kernel_rfl
    rw [e]
    intro ds1 es1 he1 w1
    have e57 : sh 57 = some [.int .i64, .int .i64, .int .i64, .int .i64, .int .i64, .int .i64, .sl [.int .u8], .sl [.int .i64], .sl [.int .i64], .sl [.int .i64, .int .i64, .int .i64, .int .i64, .int .i64, .int .i64, .int .i64, .int .i64, .sl [.int .i64], .int .i64, .int .i64, .sl [.int .i64, .int .i64, .int .i64], .sl [.int .i64]], .sl [.int .i64, .int .i64, .sl [.int .i64], .sl [.int .i64], .int .i64], .sl [.int .i64]] := by kernel_rfl
    cases e57.symm.trans he1
    obtain ⟨w, rfl, hw⟩ := world_inv w1
    exact c_law hw
end RoomsIn
theorem fnExactRoomsIn_holds : Rows.FnExactRoomsInSaid :=
  OpenClaim.holds_of_wide F_laws_FnExactRoomsIn Try.f8 rfl rfl rfl rfl rfl rfl rfl ⟨rfl, rfl, rfl, rfl, rfl⟩ rfl rfl rfl rfl rfl (by kernel_rfl) Try.func8 (by kernel_rfl)
    (of_decide_eq_true (by kernel_rfl)) (by unfold Func.isWrapper; first | (rw [if_pos (by decide +kernel)]; kernel_rfl) | (rw [if_neg (by decide +kernel)]; exact ⟨rfl, rfl⟩))
    (fun os started H enc _ => RoomsIn.lifted os started H enc)
#print axioms fnExactRoomsIn_holds
end Go.Proofs.Ytmnfcahbmlfccaa
