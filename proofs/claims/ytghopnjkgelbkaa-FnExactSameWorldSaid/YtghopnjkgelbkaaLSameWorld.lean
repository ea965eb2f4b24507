/- The program's SameWorld returns what the reference's SameWorld returns, for all arguments: the law FnExactSameWorld says true of every pair of worlds. No conditions. -/
import Derived.Test.YtghopnjkgelbkaaHSw
import Derived.Test.YtghopnjkgelbkaaVN1
import Derived.Test.YtghopnjkgelbkaaRows
import Derived.Test.YtghopnjkgelbkaaChecked
import Derived.ProofKit
namespace Go.Proofs.Ytghopnjkgelbkaa
open Go Go.Proofs.Ytghopnjkgelbkaa.DL
open Go.ChangeShapes Go.WideShapes Go.ChangeAt Go.RowKit
set_option maxRecDepth 100000

namespace SameWorld
theorem c_law {a b : World'} (ha : a.ok ∧ ∀ x ∈ a.p.mem, 0 ≤ x ∧ x ≤ 255) (hb : b.ok ∧ ∀ x ∈ b.p.mem, 0 ≤ x ∧ x ≤ 255) : CallD Try.prog F_laws_FnExactSameWorld [rWorld a, rWorld b] fun r _ => r = bS true := by
  refine k_laws_FnExactSameWorld ?_
  unfold vc_laws_FnExactSameWorld
  refine ⟨_, c_szWorld ha.1, fun _ => rfl, fun g => ?_⟩
  obtain ⟨h1, h2⟩ := lf_pos g
  have t0 : ∀ w : World', 0 ≤ totW w := fun w => by
    have n2 := szs_nonneg w.l
    have n3 := szq_nonneg w.q
    unfold totW totP totN totQ
    omega
  have ta := t0 a
  rw [h2]
  refine ⟨_, c_szWorldG hb.1 (by omega) (by omega), fun _ => rfl, fun g2 => ?_⟩
  obtain ⟨h3, -⟩ := lf_pos g2
  have g3 : decide (lf (totW b) 1048576 < 0) = false := by
    have tb := t0 b
    rw [decide_eq_false_iff_not]
    unfold lf
    split <;> omega
  have hT := c_toWorld g
  have hT' := c_toWorld g3
  have hS := c_SameWorldS g ha.2 hb.2
  have hI := c_SameWorld g b
  generalize worldB a b = r at *
  have hE := c_eqWorld_self g
  have hE' := c_eqWorld_self g3
  clear g g2 g3 h1 h2 h3 t0 ta
  cases r <;>
    repeat' (first
    | trivial
    | exact hT
    | exact hT'
    | exact hS
    | exact hI
    | exact hE
    | exact hE'
    | (intro g; exfalso; revert g; simp; done)
    | intro _
    | apply And.intro
    | apply Exists.intro)

theorem lifted (os : Os) (started : os.Started) (H : Type) (enc : TypeId × Value → H) :
    ReturnsInHanded {} Try.checked os F_laws_FnExactSameWorld .any (Rows.fnExactSameWorldSpec.pre6 enc Try.prog Try.f4 Rows.fnExactSameWorldRow.domain false) (Rows.fnExactSameWorldSpec.post enc Try.prog Try.f4 false true false false) := by
  refine returnsInHanded_of_change (C := Try.checked) own started (by kernel_rfl) Try.func4
    (ChangeSpec.witness6 (enc := enc) (C := Try.checked) false ⟨#[], #[.agg #[.int .i64 0, .int .i64 0, .int .i64 0, .int .i64 0, .int .i64 0, .int .i64 0, .slice none 0 0, .slice none 0 0, .slice none 0 0, .slice none 0 0, .slice none 0 0, .slice none 0 0], .agg #[.int .i64 0, .int .i64 0, .int .i64 0, .int .i64 0, .int .i64 0, .int .i64 0, .slice none 0 0, .slice none 0 0, .slice none 0 0, .slice none 0 0, .slice none 0 0, .slice none 0 0]], []⟩ 8 (by kernel_rfl) (by kernel_rfl) (by kernel_rfl) (by kernel_rfl)) ?_
  intro W base args ds gs before hval0 hW hcnd _
  refine law_row (bs := [true, true]) (bt := 4) laidOut shOk rfl (by kernel_rfl) (by kernel_rfl) (by kernel_rfl) (fun ds h => ?_) (by kernel_rfl) (by kernel_rfl) ?_ hW hval0
  · match ds, h with
    | [_, _], _ => rfl
  · have e : Try.f4.params.toList = [46, 46] := by kernel_rfl
    rw [e]
    intro ds1 es1 he1 w1 ds2 es2 he2 w2
    have e46 : sh 46 = some [.int .i64, .int .i64, .int .i64, .int .i64, .int .i64, .int .i64, .sl [.int .u8], .sl [.int .i64], .sl [.int .i64], .sl [.int .i64, .int .i64, .int .i64, .int .i64, .int .i64, .int .i64, .int .i64, .int .i64, .sl [.int .i64], .int .i64, .int .i64, .sl [.int .i64, .int .i64, .int .i64], .sl [.int .i64]], .sl [.int .i64, .int .i64, .sl [.int .i64], .sl [.int .i64], .int .i64], .sl [.int .i64]] := by kernel_rfl
    cases e46.symm.trans he1
    cases e46.symm.trans he2
    obtain ⟨a, rfl, ha⟩ := worldb_inv w1
    obtain ⟨b, rfl, hb⟩ := worldb_inv w2
    exact c_law ha hb
end SameWorld
theorem fnExactSameWorld_holds : Rows.FnExactSameWorldSaid :=
  OpenClaim.holds_of_wide F_laws_FnExactSameWorld Try.f4 rfl rfl rfl rfl rfl rfl rfl ⟨rfl, rfl, rfl, rfl, rfl⟩ rfl rfl rfl rfl rfl (by kernel_rfl) Try.func4 (by kernel_rfl)
    (of_decide_eq_true (by kernel_rfl)) (by unfold Func.isWrapper; first | (rw [if_pos (by decide +kernel)]; kernel_rfl) | (rw [if_neg (by decide +kernel)]; exact ⟨rfl, rfl⟩))
    (fun os started H enc _ => SameWorld.lifted os started H enc)
#print axioms fnExactSameWorld_holds
end Go.Proofs.Ytghopnjkgelbkaa
