/- The program's NextOf returns what the reference's NextOf returns, for all arguments: the law FnExactNextOf says true of every remains. No conditions. -/
import Derived.Test.YtbmflnlppnkbaaaHA
import Derived.Test.YtbmflnlppnkbaaaRows
import Derived.Test.YtbmflnlppnkbaaaChecked
import Derived.ProofKit
namespace Go.Proofs.Ytbmflnlppnkbaaa
open Go Go.Proofs.Ytbmflnlppnkbaaa.DL
open Go.ChangeShapes Go.WideShapes Go.ChangeAt Go.RowKit
set_option maxRecDepth 100000

namespace NextOf
def next (x : Waste) : Int := if 0 < x.tags.length then 1 else if 0 < x.chunks.length then 2 else if x.first ≠ 0 then 3 else 4
theorem c_impl (x : Waste) : CallD Try.prog F_impl_NextOf [rWaste x] fun r _ => r = iS (next x) := by
  refine k_impl_NextOf ?_
  unfold vc_impl_NextOf
  simp only [nI, n_ints]
  refine ⟨fun h1 => iS_eq ?_, fun h1 => ⟨fun h2 => iS_eq ?_, fun h2 => ⟨fun h3 => iS_eq ?_, fun h3 => iS_eq ?_⟩⟩⟩ <;> simp at * <;> simp_all [next]
theorem c_spec (x : Waste) : CallD Try.prog F_spec_NextOf [rWaste x] fun r _ => r = iS (next x) := by
  refine k_spec_NextOf ?_
  unfold vc_spec_NextOf
  simp only [nI, n_ints]
  refine ⟨fun h1 => iS_eq ?_, fun h1 => ⟨fun h2 => iS_eq ?_, fun h2 => ⟨fun h3 => iS_eq ?_, fun h3 => iS_eq ?_⟩⟩⟩ <;> simp at * <;> simp_all [next]
theorem c_law {x : Waste} (hx : x.ok) : CallD Try.prog F_laws_FnExactNextOf [rWaste x] fun r _ => r = bS true := by
  refine k_laws_FnExactNextOf ?_
  unfold vc_laws_FnExactNextOf
  refine ⟨_, c_szWaste hx, fun g => rfl, fun g => ?_⟩
  have hs : x.sz ≤ 1048576 := Waste.left_sz (by simpa using g)
  exact ⟨_, _, _, _, _, c_toWaste hs, _, c_spec x, _, _, _, _, _, c_toWaste hs, _, c_impl x, fun g => absurd g (by simp), fun _ => ⟨_, _, _, _, _, c_toWaste hs, _, c_eqWaste hs, fun _ => rfl, fun g => absurd g (by simp)⟩⟩

theorem lifted (os : Os) (started : os.Started) (H : Type) (enc : TypeId × Value → H) :
    ReturnsInHanded {} Try.checked os F_laws_FnExactNextOf .any (Rows.fnExactNextOfSpec.pre6 enc Try.prog Try.f5 Rows.fnExactNextOfRow.domain false) (Rows.fnExactNextOfSpec.post enc Try.prog Try.f5 false true false false) := by
  refine returnsInHanded_of_change (C := Try.checked) own started (by kernel_rfl) Try.func5
    (ChangeSpec.witness6 (enc := enc) (C := Try.checked) false ⟨#[], #[.agg #[.int .i64 0, .int .i64 0, .slice none 0 0, .slice none 0 0, .int .i64 0]], []⟩ 8 (by kernel_rfl) (by kernel_rfl) (by kernel_rfl) (by kernel_rfl)) ?_
  intro W base args ds gs before hval0 hW hcnd _
  refine law_row (bs := [true]) (bt := 4) laidOut shOk rfl (by kernel_rfl) (by kernel_rfl) (by kernel_rfl) (fun ds h => ?_) (by kernel_rfl) (by kernel_rfl) ?_ hW hval0
  · match ds, h with
    | [_], _ => rfl
  · have e : Try.f5.params.toList = [34] := by kernel_rfl
    rw [e]
    intro ds1 es1 he1 w1
    have e34 : sh 34 = some [.int .i64, .int .i64, .sl [.int .i64], .sl [.int .i64], .int .i64] := by kernel_rfl
    cases e34.symm.trans he1
    obtain ⟨x, rfl, hx⟩ := waste_inv w1
    exact c_law hx
end NextOf
theorem fnExactNextOf_holds : Rows.FnExactNextOfSaid :=
  OpenClaim.holds_of_wide F_laws_FnExactNextOf Try.f5 rfl rfl rfl rfl rfl rfl rfl ⟨rfl, rfl, rfl, rfl, rfl⟩ rfl rfl rfl rfl rfl (by kernel_rfl) Try.func5 (by kernel_rfl)
    (of_decide_eq_true (by kernel_rfl)) (by unfold Func.isWrapper; first | (rw [if_pos (by decide +kernel)]; kernel_rfl) | (rw [if_neg (by decide +kernel)]; exact ⟨rfl, rfl⟩))
    (fun os started H enc _ => NextOf.lifted os started H enc)
#print axioms fnExactNextOf_holds
end Go.Proofs.Ytbmflnlppnkbaaa
