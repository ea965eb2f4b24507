/- The program's OwnSteps returns what the reference's OwnSteps returns, for all arguments: the law FnExactOwnSteps says true of every configuration and remains. No conditions. -/
import Derived.Test.YtbmflnlppnkbaaaHA
import Derived.Test.YtbmflnlppnkbaaaRows
import Derived.Test.YtbmflnlppnkbaaaChecked
import Derived.ProofKit
namespace Go.Proofs.Ytbmflnlppnkbaaa
open Go Go.Proofs.Ytbmflnlppnkbaaa.DL
open Go.ChangeShapes Go.WideShapes Go.ChangeAt Go.RowKit
set_option maxRecDepth 100000

namespace OwnSteps
def within (a b c : Int) : Bool := decide (b ≤ a) && decide (a ≤ c)
theorem c_within (a b c : Int) : CallD Try.prog F_impl_within [iS a, iS b, iS c] fun r _ => r = bS (within a b c) := by
  refine k_impl_within ?_
  unfold vc_impl_within within
  refine ⟨fun h => ⟨fun h' => bS_eq ?_, fun h' => bS_eq ?_⟩, fun h => bS_eq ?_⟩ <;> simp_all <;> omega
theorem c_l1In (a b c : Int) : CallD Try.prog F_spec_l1In [iS a, iS b, iS c] fun r _ => r = bS (within a b c) := by
  refine k_spec_l1In ?_
  unfold vc_spec_l1In within
  refine ⟨fun h => ⟨fun h' => bS_eq ?_, fun h' => bS_eq ?_⟩, fun h => bS_eq ?_⟩ <;> simp_all <;> omega
def ceil (a b : Int) : Int := if within a 0 1000000000 && within b 1 1000000000 then IntKind.i64.wrap ((IntKind.i64.wrap (IntKind.i64.wrap (a + b) - 1)).tdiv b) else 0
theorem c_ceil (a b : Int) : CallD Try.prog F_impl_CeilDiv [iS a, iS b] fun r _ => r = iS (ceil a b) := by
  refine k_impl_CeilDiv ?_
  unfold vc_impl_CeilDiv ceil
  refine ⟨_, c_within _ _ _, fun h => ⟨_, c_within _ _ _, fun h' => ⟨?_, iS_eq ?_⟩, fun h' => iS_eq ?_⟩, fun h => iS_eq ?_⟩
  · rintro rfl; simp [within] at h'
  all_goals simp [h, *]
theorem c_ceilS (a b : Int) : CallD Try.prog F_spec_CeilDiv [iS a, iS b] fun r _ => r = iS (ceil a b) := by
  refine k_spec_CeilDiv ?_
  unfold vc_spec_CeilDiv ceil
  refine ⟨_, c_l1In _ _ _, fun h => ⟨_, c_l1In _ _ _, fun h' => ⟨?_, iS_eq ?_⟩, fun h' => iS_eq ?_⟩, fun h => iS_eq ?_⟩
  · rintro rfl; simp [within] at h'
  all_goals simp [h, *]
theorem c_slices (c : Conf) (n : Int) : CallD Try.prog F_impl_SlicesOf [confS c, iS n] fun r _ => r = iS (ceil n c.slice) := by
  refine k_impl_SlicesOf ?_
  exact ⟨_, c_ceil _ _, rfl⟩
theorem c_slicesS (c : Conf) (n : Int) : CallD Try.prog F_spec_SlicesOf [confS c, iS n] fun r _ => r = iS (ceil n c.slice) := by
  refine k_spec_SlicesOf ?_
  exact ⟨_, c_ceilS _ _, rfl⟩
def steps (c : Conf) (x : Waste) : Nat → Int
  | 0 => IntKind.i64.wrap (x.tags.length + 1)
  | k + 1 => IntKind.i64.wrap (steps c x k + if k = 0 then ceil (IntKind.i64.wrap (c.size - x.done)) c.slice else ceil c.size c.slice)
theorem c_impl (c : Conf) {x : Waste} (hx : x.chunks.length ≤ M63) : CallD Try.prog F_impl_OwnSteps [confS c, rWaste x] fun r _ => r = iS (steps c x x.chunks.length) := by
  unfold M63 at hx
  refine k_impl_OwnSteps ?_
  unfold vc_impl_OwnSteps
  simp only [nI, n_ints]
  refine ⟨fun n i m => ∃ k : Nat, i = k ∧ k ≤ x.chunks.length ∧ m = x.chunks.length - k ∧ n = steps c x k, ⟨_, 0, rfl, Nat.zero_le _, rfl, rfl⟩, ?_⟩
  rintro n i m ⟨k, rfl, hk, rfl, rfl⟩
  simp only [decide_eq_true_eq, decide_eq_false_iff_not]
  refine ⟨fun h1 => ⟨fun h2 => ⟨_, c_slices c _, ⟨trivial, trivial, trivial⟩, x.chunks.length - (k + 1), by omega, k + 1, ?_, by omega, rfl, ?_⟩, fun h2 => ⟨_, c_slices c _, ⟨trivial, trivial, trivial⟩, x.chunks.length - (k + 1), by omega, k + 1, ?_, by omega, rfl, ?_⟩⟩, fun h1 => iS_eq ?_⟩
  · exact wrap_id (by omega) (by omega)
  · rw [steps, if_pos (by omega)]
  · exact wrap_id (by omega) (by omega)
  · rw [steps, if_neg (by omega)]
  · have : k = x.chunks.length := by omega
    rw [this]
theorem c_spec (c : Conf) {x : Waste} (hx : x.chunks.length ≤ M63) : CallD Try.prog F_spec_OwnSteps [confS c, rWaste x] fun r _ => r = iS (steps c x x.chunks.length) := by
  unfold M63 at hx
  refine k_spec_OwnSteps ?_
  unfold vc_spec_OwnSteps
  simp only [nI, n_ints]
  refine ⟨fun n i m => ∃ k : Nat, i = k ∧ k ≤ x.chunks.length ∧ m = x.chunks.length - k ∧ n = steps c x k, ⟨_, 0, rfl, Nat.zero_le _, rfl, rfl⟩, ?_⟩
  rintro n i m ⟨k, rfl, hk, rfl, rfl⟩
  simp only [decide_eq_true_eq, decide_eq_false_iff_not]
  refine ⟨fun h1 => ⟨fun h2 => ⟨_, c_slicesS c _, ⟨trivial, trivial⟩, x.chunks.length - (k + 1), by omega, k + 1, ?_, by omega, rfl, ?_⟩, fun h2 => ⟨_, c_slicesS c _, ⟨trivial, trivial⟩, x.chunks.length - (k + 1), by omega, k + 1, ?_, by omega, rfl, ?_⟩⟩, fun h1 => iS_eq ?_⟩
  · exact wrap_id (by omega) (by omega)
  · rw [steps, if_pos (by omega)]
  · exact wrap_id (by omega) (by omega)
  · rw [steps, if_neg (by omega)]
  · have : k = x.chunks.length := by omega
    rw [this]
theorem c_toConf (c : Conf) : CallD Try.prog F_laws_toConf [confS c] fun r _ => r = confS c := k_laws_toConf rfl
theorem c_law (c : Conf) {x : Waste} (hx : x.ok) : CallD Try.prog F_laws_FnExactOwnSteps [confS c, rWaste x] fun r _ => r = bS true := by
  refine k_laws_FnExactOwnSteps ?_
  unfold vc_laws_FnExactOwnSteps
  refine ⟨_, c_szWaste hx, fun g => rfl, fun g => ?_⟩
  have hs : x.sz ≤ 1048576 := Waste.left_sz (by simpa using g)
  have hl : x.chunks.length ≤ M63 := hx.2.2.2.1.1
  exact ⟨_, _, _, _, _, _, c_toConf c, _, _, _, _, _, c_toWaste hs, _, c_spec c hl, _, _, _, _, _, c_toWaste hs, _, _, _, _, _, _, c_toConf c, _, c_impl c hl,
    fun g => absurd g (by simp), fun _ => ⟨_, _, _, _, _, c_toWaste hs, _, c_eqWaste hs, fun _ => rfl, fun g => absurd g (by simp)⟩⟩

theorem lifted (os : Os) (started : os.Started) (H : Type) (enc : TypeId × Value → H) :
    ReturnsInHanded {} Try.checked os F_laws_FnExactOwnSteps .any (Rows.fnExactOwnStepsSpec.pre6 enc Try.prog Try.f9 Rows.fnExactOwnStepsRow.domain false) (Rows.fnExactOwnStepsSpec.post enc Try.prog Try.f9 false true false false) := by
  refine returnsInHanded_of_change (C := Try.checked) own started (by kernel_rfl) Try.func9
    (ChangeSpec.witness6 (enc := enc) (C := Try.checked) false ⟨#[], #[.agg #[.int .i64 0, .int .i64 0, .int .i64 0, .int .i64 0, .int .i64 0, .int .i64 0], .agg #[.int .i64 0, .int .i64 0, .slice none 0 0, .slice none 0 0, .int .i64 0]], []⟩ 8 (by kernel_rfl) (by kernel_rfl) (by kernel_rfl) (by kernel_rfl)) ?_
  intro W base args ds gs before hval0 hW hcnd _
  refine law_row (bs := [true, true]) (bt := 4) laidOut shOk rfl (by kernel_rfl) (by kernel_rfl) (by kernel_rfl) (fun ds h => ?_) (by kernel_rfl) (by kernel_rfl) ?_ hW hval0
  · match ds, h with
    | [_, _], _ => rfl
  · have e : Try.f9.params.toList = [58, 34] := by kernel_rfl
    rw [e]
    intro ds1 es1 he1 w1 ds2 es2 he2 w2
    have e58 : sh 58 = some [.int .i64, .int .i64, .int .i64, .int .i64, .int .i64, .int .i64] := by kernel_rfl
    have e34 : sh 34 = some [.int .i64, .int .i64, .sl [.int .i64], .sl [.int .i64], .int .i64] := by kernel_rfl
    cases e58.symm.trans he1
    cases e34.symm.trans he2
    obtain ⟨c, rfl, hc⟩ := conf_inv w1
    obtain ⟨x, rfl, hx⟩ := waste_inv w2
    exact c_law c hx
end OwnSteps
theorem fnExactOwnSteps_holds : Rows.FnExactOwnStepsSaid :=
  OpenClaim.holds_of_wide F_laws_FnExactOwnSteps Try.f9 rfl rfl rfl rfl rfl rfl rfl ⟨rfl, rfl, rfl, rfl, rfl⟩ rfl rfl rfl rfl rfl (by kernel_rfl) Try.func9 (by kernel_rfl)
    (of_decide_eq_true (by kernel_rfl)) (by unfold Func.isWrapper; first | (rw [if_pos (by decide +kernel)]; kernel_rfl) | (rw [if_neg (by decide +kernel)]; exact ⟨rfl, rfl⟩))
    (fun os started H enc _ => OwnSteps.lifted os started H enc)
#print axioms fnExactOwnSteps_holds
end Go.Proofs.Ytbmflnlppnkbaaa
