/- The program's FindThing returns what the reference's FindThing returns, for all arguments: the law FnExactFindThing says true of every world and reference. No conditions. -/
import Derived.Test.YtghopnjkgelbkaaHT
import Derived.Test.YtghopnjkgelbkaaRows
import Derived.Test.YtghopnjkgelbkaaChecked
import Derived.ProofKit
namespace Go.Proofs.Ytghopnjkgelbkaa
open Go Go.Proofs.Ytghopnjkgelbkaa.DL
open Go.ChangeShapes Go.WideShapes Go.ChangeAt Go.RowKit
set_option maxRecDepth 100000

namespace FindThing
theorem c_law {w : World'} (hw : w.ok) {x : Ref} (hx : x.ok) : CallD Try.prog F_laws_FnExactFindThing [rWorld w, refS x] fun r _ => r = bS true := by
  refine k_laws_FnExactFindThing ?_
  unfold vc_laws_FnExactFindThing
  refine ⟨_, c_szWorld hw, fun _ => rfl, fun g => ?_⟩
  have hl : w.l.length ≤ 1048576 := by
    obtain ⟨-, h2, -⟩ := World'.tot_le g
    have := szs_nonneg w.l
    unfold totN at h2; omega
  have hT := c_toWorld g
  have hF := c_eqWorld_self g
  clear g
  have hok : ∀ n ∈ w.l, n.ok := hw.2.2.1.2
  have hS := c_FindThingS hl hok hx
  have hI := c_FindThing hl hok hx
  have hU := c_toRef x
  have hE := c_eqThing (ftT w x) (ftT w x)
  simp only [decide_true] at hE
  simp only [tFT] at hS hI
  generalize ftK w x = k at *
  generalize ftT w x = t at *
  generalize ftC w x = c at *
  repeat' (first
    | trivial
    | exact hT
    | exact hF
    | exact hS
    | exact hI
    | exact hU
    | exact hE
    | (intro g; exfalso; revert g; simp; done)
    | intro _
    | apply And.intro
    | apply Exists.intro)

theorem lifted (os : Os) (started : os.Started) (H : Type) (enc : TypeId × Value → H) :
    ReturnsInHanded {} Try.checked os F_laws_FnExactFindThing .any (Rows.fnExactFindThingSpec.pre6 enc Try.prog Try.f12 Rows.fnExactFindThingRow.domain false) (Rows.fnExactFindThingSpec.post enc Try.prog Try.f12 false true false false) := by
  refine returnsInHanded_of_change (C := Try.checked) own started (by kernel_rfl) Try.func12
    (ChangeSpec.witness6 (enc := enc) (C := Try.checked) false ⟨#[], #[.agg #[.int .i64 0, .int .i64 0, .int .i64 0, .int .i64 0, .int .i64 0, .int .i64 0, .slice none 0 0, .slice none 0 0, .slice none 0 0, .slice none 0 0, .slice none 0 0, .slice none 0 0], .agg #[.int .i64 0, .int .i64 0, .int .i64 0, .int .i64 0]], []⟩ 8 (by kernel_rfl) (by kernel_rfl) (by kernel_rfl) (by kernel_rfl)) ?_
  intro W base args ds gs before hval0 hW hcnd _
  refine law_row (bs := [true, true]) (bt := 4) laidOut shOk rfl (by kernel_rfl) (by kernel_rfl) (by kernel_rfl) (fun ds h => ?_) (by kernel_rfl) (by kernel_rfl) ?_ hW hval0
  · match ds, h with
    | [_, _], _ => rfl
  · have e : Try.f12.params.toList = [46, 73] := by kernel_rfl
    rw [e]
    intro ds1 es1 he1 w1 ds2 es2 he2 w2
    have e46 : sh 46 = some [.int .i64, .int .i64, .int .i64, .int .i64, .int .i64, .int .i64, .sl [.int .u8], .sl [.int .i64], .sl [.int .i64], .sl [.int .i64, .int .i64, .int .i64, .int .i64, .int .i64, .int .i64, .int .i64, .int .i64, .sl [.int .i64], .int .i64, .int .i64, .sl [.int .i64, .int .i64, .int .i64], .sl [.int .i64]], .sl [.int .i64, .int .i64, .sl [.int .i64], .sl [.int .i64], .int .i64], .sl [.int .i64]] := by kernel_rfl
    cases e46.symm.trans he1
    have e73 : sh 73 = some [.int .i64, .int .i64, .int .i64, .int .i64] := by kernel_rfl
    cases e73.symm.trans he2
    obtain ⟨w, rfl, hw⟩ := world_inv w1
    obtain ⟨x, rfl, hx⟩ := ref_inv w2
    exact c_law hw hx
end FindThing
theorem fnExactFindThing_holds : Rows.FnExactFindThingSaid :=
  OpenClaim.holds_of_wide F_laws_FnExactFindThing Try.f12 rfl rfl rfl rfl rfl rfl rfl ⟨rfl, rfl, rfl, rfl, rfl⟩ rfl rfl rfl rfl rfl (by kernel_rfl) Try.func12 (by kernel_rfl)
    (of_decide_eq_true (by kernel_rfl)) (by unfold Func.isWrapper; first | (rw [if_pos (by decide +kernel)]; kernel_rfl) | (rw [if_neg (by decide +kernel)]; exact ⟨rfl, rfl⟩))
    (fun os started H enc _ => FindThing.lifted os started H enc)
#print axioms fnExactFindThing_holds
end Go.Proofs.Ytghopnjkgelbkaa
