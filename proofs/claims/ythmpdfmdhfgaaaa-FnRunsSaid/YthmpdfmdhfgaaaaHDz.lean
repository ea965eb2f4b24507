/- Contracts of small functions: configurations drawn. -/
import Derived.Test.YthmpdfmdhfgaaaaHDa
import Derived.Test.YthmpdfmdhfgaaaaVHDz
namespace Go.Proofs.Ythmpdfmdhfgaaaa
open Go Go.Proofs.Ythmpdfmdhfgaaaa.DL
set_option maxRecDepth 100000

theorem c_l3Any {v : Value} {a : List Int} (ha : a.length ≤ M63) {i : Int} (hi : 0 ≤ i) (h : Int) :
    ∃ c i' h', (0 ≤ c.size ∧ c.size ≤ 100) ∧ 0 ≤ i' ∧ CallD Try.prog F_spec_l3Any [Cur v a i h] fun r bs => r = confS c ∧ bs.getD 0 .dead = Cur v a i' h' := by
  obtain ⟨c, i1, h1, gc, k1, cd⟩ := c_l3Conf (v := v) ha hi h
  obtain ⟨x, i2, h2, gx, k2, cx⟩ := c_l1Below (v := v) ha k1 h1 14
  have hs : 0 ≤ c.size ∧ c.size ≤ 100 := by have := gc.size; omega
  have hx14 := gx.2.1 (by omega)
  have hcase : x = 0 ∨ x = 1 ∨ x = 2 ∨ x = 3 ∨ x = 4 ∨ x = 5 ∨ 5 < x := by omega
  rcases hcase with hx | hx | hx | hx | hx | hx | hx
  · obtain ⟨y, i3, h3, gy, k3, cy⟩ := c_l1Int (v := v) ha k2 h2 (l := [1, 2, 12, 13]) (by decide)
    refine ⟨{ c with chunks := y }, i3, h3, hs, k3, k_spec_l3Any ?_⟩
    unfold vc_spec_l3Any
    exact ⟨_, _, _, _, _, _, _, _, rfl, cd, _, _, _, rfl, cx, ⟨fun _ => ⟨_, _, _, rfl, cy, rfl, rfl⟩, fun g => absurd hx (of_decide_eq_false g)⟩⟩
  · obtain ⟨y, i3, h3, gy, k3, cy⟩ := c_l1Int (v := v) ha k2 h2 (l := [7, 8, 16, 17]) (by decide)
    refine ⟨{ c with size := y }, i3, h3, (show 0 ≤ y ∧ y ≤ 100 by simp only [List.mem_cons, List.not_mem_nil, or_false] at gy; omega), k3, k_spec_l3Any ?_⟩
    unfold vc_spec_l3Any
    exact ⟨_, _, _, _, _, _, _, _, rfl, cd, _, _, _, rfl, cx, ⟨fun g => absurd (of_decide_eq_true g) (by omega), fun _ => ⟨fun _ => ⟨_, _, _, rfl, cy, rfl, rfl⟩, fun g => absurd hx (of_decide_eq_false g)⟩⟩⟩
  · obtain ⟨y, i3, h3, gy, k3, cy⟩ := c_l1Int (v := v) ha k2 h2 (l := [1, 8, 9]) (by decide)
    refine ⟨{ c with slots := y }, i3, h3, hs, k3, k_spec_l3Any ?_⟩
    unfold vc_spec_l3Any
    exact ⟨_, _, _, _, _, _, _, _, rfl, cd, _, _, _, rfl, cx, ⟨fun g => absurd (of_decide_eq_true g) (by omega), fun _ => ⟨fun g => absurd (of_decide_eq_true g) (by omega), fun _ => ⟨fun _ => ⟨_, _, _, rfl, cy, rfl, rfl⟩, fun g => absurd hx (of_decide_eq_false g)⟩⟩⟩⟩
  · obtain ⟨y, i3, h3, gy, k3, cy⟩ := c_l1Int (v := v) ha k2 h2 (l := [0, 8, 9]) (by decide)
    refine ⟨{ c with tax := y }, i3, h3, hs, k3, k_spec_l3Any ?_⟩
    unfold vc_spec_l3Any
    exact ⟨_, _, _, _, _, _, _, _, rfl, cd, _, _, _, rfl, cx, ⟨fun g => absurd (of_decide_eq_true g) (by omega), fun _ => ⟨fun g => absurd (of_decide_eq_true g) (by omega), fun _ => ⟨fun g => absurd (of_decide_eq_true g) (by omega), fun _ => ⟨fun _ => ⟨_, _, _, rfl, cy, rfl, rfl⟩, fun g => absurd hx (of_decide_eq_false g)⟩⟩⟩⟩⟩
  · obtain ⟨y, i3, h3, gy, k3, cy⟩ := c_l1Int (v := v) ha k2 h2 (l := [0, 17]) (by decide)
    refine ⟨{ c with slice := y }, i3, h3, hs, k3, k_spec_l3Any ?_⟩
    unfold vc_spec_l3Any
    exact ⟨_, _, _, _, _, _, _, _, rfl, cd, _, _, _, rfl, cx, ⟨fun g => absurd (of_decide_eq_true g) (by omega), fun _ => ⟨fun g => absurd (of_decide_eq_true g) (by omega), fun _ => ⟨fun g => absurd (of_decide_eq_true g) (by omega), fun _ => ⟨fun g => absurd (of_decide_eq_true g) (by omega), fun _ => ⟨fun _ => ⟨_, _, _, rfl, cy, rfl, rfl⟩, fun g => absurd hx (of_decide_eq_false g)⟩⟩⟩⟩⟩⟩
  · obtain ⟨y, i3, h3, gy, k3, cy⟩ := c_l1Int (v := v) ha k2 h2 (l := [0, 5]) (by decide)
    refine ⟨{ c with gens := y }, i3, h3, hs, k3, k_spec_l3Any ?_⟩
    unfold vc_spec_l3Any
    exact ⟨_, _, _, _, _, _, _, _, rfl, cd, _, _, _, rfl, cx, ⟨fun g => absurd (of_decide_eq_true g) (by omega), fun _ => ⟨fun g => absurd (of_decide_eq_true g) (by omega), fun _ => ⟨fun g => absurd (of_decide_eq_true g) (by omega), fun _ => ⟨fun g => absurd (of_decide_eq_true g) (by omega), fun _ => ⟨fun g => absurd (of_decide_eq_true g) (by omega), fun _ => ⟨fun _ => ⟨_, _, _, rfl, cy, rfl, rfl⟩, fun g => absurd hx (of_decide_eq_false g)⟩⟩⟩⟩⟩⟩⟩
  · refine ⟨c, i2, h2, hs, k2, k_spec_l3Any ?_⟩
    unfold vc_spec_l3Any
    exact ⟨_, _, _, _, _, _, _, _, rfl, cd, _, _, _, rfl, cx, ⟨fun g => absurd (of_decide_eq_true g) (by omega), fun _ => ⟨fun g => absurd (of_decide_eq_true g) (by omega), fun _ => ⟨fun g => absurd (of_decide_eq_true g) (by omega), fun _ => ⟨fun g => absurd (of_decide_eq_true g) (by omega), fun _ => ⟨fun g => absurd (of_decide_eq_true g) (by omega), fun _ => ⟨fun g => absurd (of_decide_eq_true g) (by omega), fun _ => ⟨rfl, rfl⟩⟩⟩⟩⟩⟩⟩⟩
end Go.Proofs.Ythmpdfmdhfgaaaa
