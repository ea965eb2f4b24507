/- The program's TagsOf returns what the reference's TagsOf returns, for all arguments: the law FnExactTagsOf says true of every world and slot. No conditions. -/
import Derived.Test.YtmnfcahbmlfccaaHY
import Derived.Test.YtmnfcahbmlfccaaHW
import Derived.Test.YtmnfcahbmlfccaaVN5
import Derived.Test.YtmnfcahbmlfccaaRows
import Derived.Test.YtmnfcahbmlfccaaChecked
import Derived.ProofKit
namespace Go.Proofs.Ytmnfcahbmlfccaa
open Go Go.Proofs.Ytmnfcahbmlfccaa.DL
open Go.ChangeShapes Go.WideShapes Go.ChangeAt Go.RowKit
set_option maxRecDepth 100000

namespace TagsOf
theorem c_law {w : World'} (hw : w.ok) (k : Int) : CallD Try.prog F_laws_FnExactTagsOf [rWorld w, iS k] fun r _ => r = bS true := by
  refine k_laws_FnExactTagsOf ?_
  unfold vc_laws_FnExactTagsOf
  refine ⟨_, c_szWorld hw, fun _ => rfl, fun g => ?_⟩
  obtain ⟨hpp, hn, hq, hlg, -, hp1, hp2⟩ := World'.tot_le g
  have hM := c_markWorld hpp hn hq hlg (b := 1) (by omega) (by omega)
  have hm := mendW_le (w := w) (b := 1) (by omega)
  have hT := c_toWorld g
  have hF := c_eqWorld_self g
  clear g
  have hok : ∀ n ∈ w.l, n.ok := hw.2.2.1.2
  have hS := c_TagsOfS hn hok k
  have hI := c_TagsOf hn k
  have hr := (tags_deep hn k).2
  generalize tagsL w k = r at *
  have hE := c_eqIntS (a := r) (b := r) (by unfold M63; omega)
  have hN := c_markI hr (b := 1) (by omega) (by unfold M40; omega)
  have hH := c_heldI (n := r.length) hr (b := 1) (by omega) (by unfold M40; omega)
  repeat' (first
    | trivial
    | exact hT
    | exact hF
    | exact hS
    | exact hI
    | exact hE
    | exact hM
    | exact hN
    | exact hH
    | (intro g; exfalso; revert g; simp; done)
    | (intro g; exfalso; simp only [decide_eq_true_eq] at g; omega)
    | intro _
    | apply And.intro
    | apply Exists.intro)

theorem lifted (os : Os) (started : os.Started) (H : Type) (enc : TypeId × Value → H) :
    ReturnsInHanded {} Try.checked os F_laws_FnExactTagsOf .any (Rows.fnExactTagsOfSpec.pre6 enc Try.prog Try.f10 Rows.fnExactTagsOfRow.domain false) (Rows.fnExactTagsOfSpec.post enc Try.prog Try.f10 false true false false) := by
  refine returnsInHanded_of_change (C := Try.checked) own started (by kernel_rfl) Try.func10
    (ChangeSpec.witness6 (enc := enc) (C := Try.checked) false ⟨#[], #[.agg #[.int .i64 0, .int .i64 0, .int .i64 0, .int .i64 0, .int .i64 0, .int .i64 0, .slice none 0 0, .slice none 0 0, .slice none 0 0, .slice none 0 0, .slice none 0 0, .slice none 0 0], .int .i64 0], []⟩ 8 (by kernel_rfl) (by kernel_rfl) (by kernel_rfl) (by kernel_rfl)) ?_
  intro W base args ds gs before hval0 hW hcnd _
  refine law_row (bs := [true, false]) (bt := 4) laidOut shOk rfl (by kernel_rfl) (by kernel_rfl) (by kernel_rfl) (fun ds h => ?_) (by kernel_rfl) (by kernel_rfl) ?_ hW hval0
  · match ds, h with
    | [_, _], _ => rfl
  · have e : Try.f10.params.toList = [57, 3] := by kernel_rfl
    rw [e]
    intro ds1 es1 he1 w1 ds2 es2 he2 w2
    have e57 : sh 57 = some [.int .i64, .int .i64, .int .i64, .int .i64, .int .i64, .int .i64, .sl [.int .u8], .sl [.int .i64], .sl [.int .i64], .sl [.int .i64, .int .i64, .int .i64, .int .i64, .int .i64, .int .i64, .int .i64, .int .i64, .sl [.int .i64], .int .i64, .int .i64, .sl [.int .i64, .int .i64, .int .i64], .sl [.int .i64]], .sl [.int .i64, .int .i64, .sl [.int .i64], .sl [.int .i64], .int .i64], .sl [.int .i64]] := by kernel_rfl
    cases e57.symm.trans he1
    have e3 : sh 3 = some [.int .i64] := by kernel_rfl
    cases e3.symm.trans he2
    obtain ⟨w, rfl, hw⟩ := world_inv w1
    obtain ⟨d2, r2, rfl, k2, j2⟩ := cons_inv w2
    cases nil_inv j2
    obtain ⟨k, rfl, hk⟩ := int_inv k2
    exact c_law hw k
end TagsOf
theorem fnExactTagsOf_holds : Rows.FnExactTagsOfSaid :=
  OpenClaim.holds_of_wide F_laws_FnExactTagsOf Try.f10 rfl rfl rfl rfl rfl rfl rfl ⟨rfl, rfl, rfl, rfl, rfl⟩ rfl rfl rfl rfl rfl (by kernel_rfl) Try.func10 (by kernel_rfl)
    (of_decide_eq_true (by kernel_rfl)) (by unfold Func.isWrapper; first | (rw [if_pos (by decide +kernel)]; kernel_rfl) | (rw [if_neg (by decide +kernel)]; exact ⟨rfl, rfl⟩))
    (fun os started H enc _ => TagsOf.lifted os started H enc)
#print axioms fnExactTagsOf_holds
end Go.Proofs.Ytmnfcahbmlfccaa
