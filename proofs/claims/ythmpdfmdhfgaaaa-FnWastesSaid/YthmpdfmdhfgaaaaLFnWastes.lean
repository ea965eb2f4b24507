/- What is left of a room are its tags, its chunks, and who stood in it; nothing of it is in the room any more: the law FnWastes says true of all bytes. No conditions. -/
import Derived.Test.YthmpdfmdhfgaaaaHSb
import Derived.Test.YthmpdfmdhfgaaaaVN2
import Derived.Test.YthmpdfmdhfgaaaaRows
import Derived.Test.YthmpdfmdhfgaaaaChecked
import Derived.ProofKit
namespace Go.Proofs.Ythmpdfmdhfgaaaa
open Go Go.Proofs.Ythmpdfmdhfgaaaa.DL
open Go.ChangeShapes Go.WideShapes Go.ChangeAt Go.RowKit
set_option maxRecDepth 100000

namespace FnWastes
theorem steps_bd (c : Conf) {x : Waste} (hx : x.tags.length ≤ 1048576) : ∀ k : Nat, k ≤ 1048576 → 1 ≤ steps c x k ∧ steps c x k ≤ 1 + x.tags.length + k * 1000000000
  | 0, _ => by rw [steps, wrap_id (by omega) (by omega)]; omega
  | k + 1, hk => by
    obtain ⟨h1, h2⟩ := steps_bd c hx k (by omega)
    have h3 := ceilDiv_bd (IntKind.i64.wrap (c.size - x.done)) c.slice
    have h4 := ceilDiv_bd c.size c.slice
    rw [steps]
    by_cases h : k = 0
    · rw [if_pos h, wrap_id (by omega) (by omega)]; omega
    · rw [if_neg h, wrap_id (by omega) (by omega)]; omega
theorem c_law {v : Value} {a : List Int} (ha : a.length ≤ M63) : CallD Try.prog F_laws_FnWastes [codeS v a] fun r _ => r = bS true := by
  refine k_laws_FnWastes ?_
  unfold vc_laws_FnWastes
  refine ⟨_, c_big, condB_i (fun _ => rfl) fun _ => ?_⟩
  obtain ⟨n, x, hn, c1⟩ := c_DrawWasteOf (v := v) ha
  obtain ⟨c, y, hc, hy, c2⟩ := c_DrawOwnSteps (v := v) ha
  obtain ⟨d, z, hz, c3⟩ := c_DrawWasteOk (v := v) ha
  obtain ⟨l, hl, c4⟩ := c_DrawTagsDown (v := v) ha
  have hns : n.sz ≤ 1048576 := by have := hn.sz; omega
  have hys : y.sz ≤ 1048576 := by have := hy.sz; omega
  have hzs : z.sz ≤ 1048576 := by have := hz.sz; omega
  unfold Waste.sz at hys hzs
  have hy1 : y.chunks.length ≤ M63 := by unfold M63; omega
  have hz1 : z.tags.length ≤ M63 := by unfold M63; omega
  have hz2 : z.chunks.length ≤ M63 := by unfold M63; omega
  have hl' : l.length ≤ 1048576 := by omega
  have d1 := c_wst hns x
  have d2 := c_wstS hns x
  have hws : (wst n x).sz ≤ 1048576 := by unfold Node.sz at hns; unfold Waste.sz wst; simp only; omega
  have d3 := c_sameWaste hws
  have d4 := c_OwnSteps c hy1
  have d5 := c_OwnStepsS c hy1
  have d6 := WasteOk.c_impl d hz1 hz2
  have d7 := WasteOk.c_spec d hz1 hz2
  have d8 := Emptied.c_impl hns
  have d9 := Emptied.c_spec hns
  have hes : (Emptied.res n).sz ≤ 1048576 := by unfold Node.sz Emptied.res; simp
  have d10 := c_sameNode hes
  have d11 := Gone.c_impl hns
  have d12 := Gone.c_spec hns
  have hgs : (Gone.res n).sz ≤ 1048576 := by unfold Node.sz Gone.res; simp
  have d13 := c_sameNode hgs
  have d14 := TagsDown.c_impl hl'
  have d15 := TagsDown.c_spec hl'
  have d16 := TagsDown.c_impl (l := l.reverse) (by simpa using hl')
  rw [List.reverse_reverse] at d16
  have d17 := c_sameInts (a := l.reverse) (b := l.reverse) (by unfold M63; simp; omega)
  have d18 := c_sameInts (a := l) (b := l) (by unfold M63; omega)
  have d19 := NextOf.c_impl y
  have d20 := NextOf.c_spec y
  have d21 := c_Bare (n := Gone.res n) (by unfold Gone.res; simp) (by unfold Gone.res; simp) (by unfold Gone.res; simp)
  have e21 : bareB (Gone.res n) = true := by simp [bareB, Gone.res]
  rw [e21] at d21
  have hn1 : n.chunks.length ≤ M63 := by unfold Node.sz at hns; unfold M63; omega
  have d22 := c_sameInts (a := n.chunks) (b := n.chunks) hn1
  have hpos : 1 ≤ steps c y y.chunks.length := (steps_bd c (by omega) y.chunks.length (by omega)).1
  repeat' (first
    | with_reducible apply Exists.intro
    | with_reducible apply And.intro
    | with_reducible refine condB_t rfl ?_
    | with_reducible refine condB_f rfl ?_
    | with_reducible exact c1
    | with_reducible exact c2
    | with_reducible exact c3
    | with_reducible exact c4
    | with_reducible exact d1
    | with_reducible exact d2
    | with_reducible exact d3
    | with_reducible exact d4
    | with_reducible exact d5
    | with_reducible exact d6
    | with_reducible exact d7
    | with_reducible exact d8
    | with_reducible exact d9
    | with_reducible exact d10
    | with_reducible exact d11
    | with_reducible exact d12
    | with_reducible exact d13
    | with_reducible exact d14
    | with_reducible exact d15
    | with_reducible exact d16
    | with_reducible exact d17
    | with_reducible exact d18
    | with_reducible exact d19
    | with_reducible exact d20
    | with_reducible exact d21
    | with_reducible exact d22
    | with_reducible exact rfl
    | refine condB_t (decide_eq_true hpos) ?_
    | (refine condB_t ?_ ?_; · (simp only [nI, n_things, n_ints, Emptied.res]; decide))
    | (refine bS_eq ?_; simp [wst]; done)
    | (refine condB_f ?_ ?_; · (simp; done))
    | (refine condB_t ?_ ?_; · (simp [Emptied.res]; done))
    | exact d22
    | fail)

theorem lifted (os : Os) (started : os.Started) (H : Type) (enc : TypeId × Value → H) :
    ReturnsInHanded {} Try.checked os F_laws_FnWastes .any (Rows.fnWastesSpec.pre6 enc Try.prog Try.f12 Rows.fnWastesRow.domain false) (Rows.fnWastesSpec.post enc Try.prog Try.f12 false true false false) := by
  refine returnsInHanded_of_change (C := Try.checked) own started (by kernel_rfl) Try.func12
    (ChangeSpec.witness6 (enc := enc) (C := Try.checked) false ⟨#[], #[.slice none 0 0], []⟩ 8 (by kernel_rfl) (by kernel_rfl) (by kernel_rfl) (by kernel_rfl)) ?_
  intro W base args ds gs before hval0 hW hcnd _
  refine law_row (bs := [false]) (bt := 4) laidOut shOk rfl (by kernel_rfl) (by kernel_rfl) (by kernel_rfl) (fun ds h => ?_) (by kernel_rfl) (by kernel_rfl) ?_ hW hval0
  · match ds, h with
    | [_], _ => rfl
  · have e : Try.f12.params.toList = [22] := by kernel_rfl
    rw [e]
    intro ds1 es1 he1 w1
    have e22 : sh 22 = some [.sl [.int .u8]] := by kernel_rfl
    cases e22.symm.trans he1
    obtain ⟨d1, r1, rfl, k1, j1⟩ := cons_inv w1
    cases nil_inv j1
    obtain ⟨code, rfl, hcode, hcode'⟩ := byts_inv k1
    exact callD_of_vl fun v => c_law hcode
end FnWastes
theorem fnWastes_holds : Rows.FnWastesSaid :=
  OpenClaim.holds_of_wide F_laws_FnWastes Try.f12 rfl rfl rfl rfl rfl rfl rfl ⟨rfl, rfl, rfl, rfl, rfl⟩ rfl rfl rfl rfl rfl (by kernel_rfl) Try.func12 (by kernel_rfl)
    (of_decide_eq_true (by kernel_rfl)) (by unfold Func.isWrapper; first | (rw [if_pos (by decide +kernel)]; kernel_rfl) | (rw [if_neg (by decide +kernel)]; exact ⟨rfl, rfl⟩))
    (fun os started H enc _ => FnWastes.lifted os started H enc)
#print axioms fnWastes_holds
end Go.Proofs.Ythmpdfmdhfgaaaa
