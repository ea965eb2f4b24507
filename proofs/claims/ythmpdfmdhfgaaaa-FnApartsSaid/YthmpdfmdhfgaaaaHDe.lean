/- Contracts of small functions: remains drawn. -/
import Derived.Test.YthmpdfmdhfgaaaaHDd
import Derived.Test.YthmpdfmdhfgaaaaVHDe
namespace Go.Proofs.Ythmpdfmdhfgaaaa
open Go Go.Proofs.Ythmpdfmdhfgaaaa.DL
set_option maxRecDepth 100000

theorem below_I64 {x n : Int} (g : 0 ≤ x ∧ (0 < n → x < n) ∧ (n ≤ 0 → x = 0)) (hn : I64 n) : I64 x := by
  unfold I64 at *
  by_cases h : 0 < n
  · have := g.2.1 h; omega
  · have := g.2.2 (by omega); omega
structure WasteG (m : Int) (x : Waste) : Prop where
  ok : x.ok
  sz : x.sz ≤ m
def wst (n : Node) (slot : Int) : Waste := ⟨slot, n.first, n.tags, n.chunks, 0⟩
theorem c_wst {n : Node} (hs : n.sz ≤ 1048576) (slot : Int) : CallD Try.prog F_impl_WasteOf [rNode n, iS slot] fun r _ => r = oWaste (wst n slot) := by
  unfold Node.sz at hs
  refine k_impl_WasteOf ?_
  unfold vc_impl_WasteOf
  exact ⟨_, c_cloneI (by omega), _, c_cloneI (by omega), rfl⟩
theorem c_wstS {n : Node} (hs : n.sz ≤ 1048576) (slot : Int) : CallD Try.prog F_spec_WasteOf [rNode n, iS slot] fun r _ => r = oWaste (wst n slot) := by
  unfold Node.sz at hs
  refine k_spec_WasteOf ?_
  unfold vc_spec_WasteOf
  simp only [ints_length, n_one, List.length_nil, List.nil_append]
  exact ⟨AllVal_ints _, by omega, by omega, AllVal_ints _, by omega, by omega, rfl⟩
theorem c_l12Draw {v : Value} {a : List Int} (ha : a.length ≤ M63) {i : Int} (hi : 0 ≤ i) (h : Int) {c : Conf} (hc : 0 ≤ c.size ∧ c.size ≤ 100) :
    ∃ x i' h', WasteG 110 x ∧ 0 ≤ i' ∧ CallD Try.prog F_spec_l12Draw [Cur v a i h, confS c] fun r bs => r = oWaste x ∧ bs.getD 0 .dead = Cur v a i' h' := by
  obtain ⟨n, i1, h1, ⟨hok, hsz⟩, k1, c1⟩ := c_l10Draw (v := v) ha hi h hc
  obtain ⟨y, i2, h2, gy, k2, c2⟩ := c_l1Below (v := v) ha k1 h1 (IntKind.i64.wrap (c.slots + 1))
  have hy := below_I64 gy (wrap_I64 _)
  have cw := c_wstS (n := n) (by omega) y
  obtain ⟨z, i3, h3, gz, k3, c3⟩ := c_l1Below (v := v) ha k2 h2 3
  have hz : I64 z := below_I64 gz (by unfold I64; omega)
  have hz0 : I64 0 := by unfold I64; omega
  obtain ⟨-, -, -, -, -, -, -, -, o9, -, -, -, o13⟩ := hok
  unfold Node.sz at hsz
  have hnl : nI (DV.sl 1 (ints n.chunks)).n = n.chunks.length := by simp only [nI, n_ints]
  by_cases hch : 0 < n.chunks.length
  · obtain ⟨u, i4, h4, gu, k4, c4⟩ := c_l1Below (v := v) ha k3 h3 c.size
    have hu : I64 u := below_I64 gu (by unfold I64; omega)
    obtain ⟨b, i5, h5, k5, c5⟩ := c_l1Once (v := v) ha k4 h4 4
    cases b with
    | true =>
      refine ⟨⟨y, z, [], [], 0⟩, i5, h5, ⟨⟨hy, hz, ⟨by simp, fun w hw => by cases hw⟩, ⟨by simp, fun w hw => by cases hw⟩, hz0⟩, by simp [Waste.sz]⟩, k5, k_spec_l12Draw ?_⟩
      unfold vc_spec_l12Draw
      refine ⟨_, _, _, _, _, _, _, _, _, _, _, _, _, _, _, rfl, c1, _, _, _, rfl, c2, _, _, _, _, _, cw, _, _, _, rfl, c3, fun _ => ⟨_, _, _, rfl, c4, _, _, _, rfl, c5, fun _ => ⟨rfl, rfl⟩, fun g => by cases g⟩, fun g => ?_⟩
      have := of_decide_eq_false g
      exact absurd (by simp only [wst] at this; rw [hnl] at this; omega) (Nat.not_lt_zero 0)
    | false =>
      refine ⟨⟨y, z, n.tags, n.chunks, u⟩, i5, h5, ⟨⟨hy, hz, o13, o9, hu⟩, by simp only [Waste.sz]; omega⟩, k5, k_spec_l12Draw ?_⟩
      unfold vc_spec_l12Draw
      refine ⟨_, _, _, _, _, _, _, _, _, _, _, _, _, _, _, rfl, c1, _, _, _, rfl, c2, _, _, _, _, _, cw, _, _, _, rfl, c3, fun _ => ⟨_, _, _, rfl, c4, _, _, _, rfl, c5, (fun g => by cases g), fun _ => ⟨rfl, rfl⟩⟩, fun g => ?_⟩
      have := of_decide_eq_false g
      exact absurd (by simp only [wst] at this; rw [hnl] at this; omega) (Nat.not_lt_zero 0)
  · obtain ⟨b, i5, h5, k5, c5⟩ := c_l1Once (v := v) ha k3 h3 4
    cases b with
    | true =>
      refine ⟨⟨y, z, [], [], 0⟩, i5, h5, ⟨⟨hy, hz, ⟨by simp, fun w hw => by cases hw⟩, ⟨by simp, fun w hw => by cases hw⟩, hz0⟩, by simp [Waste.sz]⟩, k5, k_spec_l12Draw ?_⟩
      unfold vc_spec_l12Draw
      refine ⟨_, _, _, _, _, _, _, _, _, _, _, _, _, _, _, rfl, c1, _, _, _, rfl, c2, _, _, _, _, _, cw, _, _, _, rfl, c3, fun g => ?_, fun _ => ⟨_, _, _, rfl, c5, fun _ => ⟨rfl, rfl⟩, fun g => by cases g⟩⟩
      have := of_decide_eq_true g
      exact absurd (by simp only [wst] at this; rw [hnl] at this; omega) (Nat.not_lt_zero 0)
    | false =>
      refine ⟨⟨y, z, n.tags, n.chunks, 0⟩, i5, h5, ⟨⟨hy, hz, o13, o9, hz0⟩, by simp only [Waste.sz]; omega⟩, k5, k_spec_l12Draw ?_⟩
      unfold vc_spec_l12Draw
      refine ⟨_, _, _, _, _, _, _, _, _, _, _, _, _, _, _, rfl, c1, _, _, _, rfl, c2, _, _, _, _, _, cw, _, _, _, rfl, c3, fun g => ?_, fun _ => ⟨_, _, _, rfl, c5, (fun g => by cases g), fun _ => ⟨rfl, rfl⟩⟩⟩
      have := of_decide_eq_true g
      exact absurd (by simp only [wst] at this; rw [hnl] at this; omega) (Nat.not_lt_zero 0)
theorem c_l12Any {v : Value} {a : List Int} (ha : a.length ≤ M63) {i : Int} (hi : 0 ≤ i) (h : Int) {c : Conf} (hc : 0 ≤ c.size ∧ c.size ≤ 100) :
    ∃ x i' h', WasteG 111 x ∧ 0 ≤ i' ∧ CallD Try.prog F_spec_l12Any [Cur v a i h, confS c] fun r bs => r = oWaste x ∧ bs.getD 0 .dead = Cur v a i' h' := by
  obtain ⟨w, i1, h1, ⟨hok, hsz⟩, k1, cd⟩ := c_l12Draw (v := v) ha hi h hc
  obtain ⟨x, i2, h2, gx, k2, cx⟩ := c_l1Below (v := v) ha k1 h1 10
  have hs111 : w.sz ≤ 111 := by omega
  unfold Waste.sz at hsz
  obtain ⟨o1, o2, ⟨o3, p3⟩, ⟨o4, p4⟩, o5⟩ := hok
  have hyI : ∀ {l : List Int}, (∀ z ∈ l, -1 ≤ z ∧ z ≤ 256) → ∀ {y : Int}, y ∈ l → I64 y := fun hl y hy => by have := hl y hy; unfold I64; omega
  have M : ∀ {k : Nat}, k ≤ 300 → k ≤ M63 := fun hk => by unfold M63; omega
  have hx10 := gx.2.1 (by omega)
  have hcase : x = 0 ∨ x = 1 ∨ x = 2 ∨ x = 3 ∨ x = 4 ∨ 4 < x := by omega
  rcases hcase with hx | hx | hx | hx | hx | hx
  · obtain ⟨y, i3, h3, gy, k3, cy⟩ := c_l1Int (v := v) ha k2 h2 (l := [-1, 0, 8, 9]) (by decide)
    have hy := hyI (by decide) gy
    refine ⟨{ w with slot := y }, i3, h3, ⟨⟨hy, o2, ⟨o3, p3⟩, ⟨o4, p4⟩, o5⟩, hs111⟩, k3, k_spec_l12Any ?_⟩
    unfold vc_spec_l12Any
    exact ⟨_, _, _, _, _, _, _, rfl, cd, _, _, _, rfl, cx, ⟨fun _ => ⟨_, _, _, rfl, cy, rfl, rfl⟩, fun g => absurd hx (of_decide_eq_false g)⟩⟩
  · obtain ⟨y, i3, h3, gy, k3, cy⟩ := c_l1Int (v := v) ha k2 h2 (l := [-1, 9, 0]) (by decide)
    have hy := hyI (by decide) gy
    refine ⟨{ w with first := y }, i3, h3, ⟨⟨o1, hy, ⟨o3, p3⟩, ⟨o4, p4⟩, o5⟩, hs111⟩, k3, k_spec_l12Any ?_⟩
    unfold vc_spec_l12Any
    exact ⟨_, _, _, _, _, _, _, rfl, cd, _, _, _, rfl, cx, ⟨fun g => absurd (of_decide_eq_true g) (by omega), fun _ => ⟨fun _ => ⟨_, _, _, rfl, cy, rfl, rfl⟩, fun g => absurd hx (of_decide_eq_false g)⟩⟩⟩
  · obtain ⟨y, i3, h3, gy, k3, cy⟩ := c_l1Int (v := v) ha k2 h2 (l := [-1, 0, 8, 16]) (by decide)
    have hy := hyI (by decide) gy
    refine ⟨{ w with done := y }, i3, h3, ⟨⟨o1, o2, ⟨o3, p3⟩, ⟨o4, p4⟩, hy⟩, hs111⟩, k3, k_spec_l12Any ?_⟩
    unfold vc_spec_l12Any
    exact ⟨_, _, _, _, _, _, _, rfl, cd, _, _, _, rfl, cx, ⟨fun g => absurd (of_decide_eq_true g) (by omega), fun _ => ⟨fun g => absurd (of_decide_eq_true g) (by omega), fun _ => ⟨fun _ => ⟨_, _, _, rfl, cy, rfl, rfl⟩, fun g => absurd hx (of_decide_eq_false g)⟩⟩⟩⟩
  · obtain ⟨y, i3, h3, gy, k3, cy⟩ := c_l1Int (v := v) ha k2 h2 (l := [-1, 255, 256]) (by decide)
    have hy := hyI (by decide) gy
    refine ⟨{ w with tags := w.tags ++ [y] }, i3, h3, ⟨⟨o1, o2, ⟨by simp only [List.length_append, List.length_singleton]; exact M (by omega), fun z hz => (List.mem_append.1 hz).elim (p3 z) fun hz => by rw [List.mem_singleton.1 hz]; exact hy⟩, ⟨o4, p4⟩, o5⟩, by simp only [Waste.sz, List.length_append, List.length_singleton]; omega⟩, k3, k_spec_l12Any ?_⟩
    unfold vc_spec_l12Any
    exact ⟨_, _, _, _, _, _, _, rfl, cd, _, _, _, rfl, cx, ⟨fun g => absurd (of_decide_eq_true g) (by omega), fun _ => ⟨fun g => absurd (of_decide_eq_true g) (by omega), fun _ => ⟨fun g => absurd (of_decide_eq_true g) (by omega), fun _ => ⟨fun _ => ⟨_, _, _, rfl, cy, by simp only [n_ints, n_one1]; omega, by simp only [n_ints, n_one1]; omega, by rw [ints_snoc], rfl⟩, fun g => absurd hx (of_decide_eq_false g)⟩⟩⟩⟩⟩
  · obtain ⟨y, i3, h3, gy, k3, cy⟩ := c_l1Int (v := v) ha k2 h2 (l := [-1, 0, 12]) (by decide)
    have hy := hyI (by decide) gy
    refine ⟨{ w with chunks := w.chunks ++ [y] }, i3, h3, ⟨⟨o1, o2, ⟨o3, p3⟩, ⟨by simp only [List.length_append, List.length_singleton]; exact M (by omega), fun z hz => (List.mem_append.1 hz).elim (p4 z) fun hz => by rw [List.mem_singleton.1 hz]; exact hy⟩, o5⟩, by simp only [Waste.sz, List.length_append, List.length_singleton]; omega⟩, k3, k_spec_l12Any ?_⟩
    unfold vc_spec_l12Any
    exact ⟨_, _, _, _, _, _, _, rfl, cd, _, _, _, rfl, cx, ⟨fun g => absurd (of_decide_eq_true g) (by omega), fun _ => ⟨fun g => absurd (of_decide_eq_true g) (by omega), fun _ => ⟨fun g => absurd (of_decide_eq_true g) (by omega), fun _ => ⟨fun g => absurd (of_decide_eq_true g) (by omega), fun _ => ⟨fun _ => ⟨_, _, _, rfl, cy, by simp only [n_ints, n_one1]; omega, by simp only [n_ints, n_one1]; omega, by rw [ints_snoc], rfl⟩, fun g => absurd hx (of_decide_eq_false g)⟩⟩⟩⟩⟩⟩
  · refine ⟨w, i2, h2, ⟨⟨o1, o2, ⟨o3, p3⟩, ⟨o4, p4⟩, o5⟩, hs111⟩, k2, k_spec_l12Any ?_⟩
    unfold vc_spec_l12Any
    exact ⟨_, _, _, _, _, _, _, rfl, cd, _, _, _, rfl, cx, ⟨fun g => absurd (of_decide_eq_true g) (by omega), fun _ => ⟨fun g => absurd (of_decide_eq_true g) (by omega), fun _ => ⟨fun g => absurd (of_decide_eq_true g) (by omega), fun _ => ⟨fun g => absurd (of_decide_eq_true g) (by omega), fun _ => ⟨fun g => absurd (of_decide_eq_true g) (by omega), fun _ => ⟨rfl, rfl⟩⟩⟩⟩⟩⟩⟩
theorem c_l3Any {v : Value} {a : List Int} (ha : a.length ≤ M63) {i : Int} (hi : 0 ≤ i) (h : Int) :
    ∃ c i' h', (0 ≤ c.size ∧ c.size ≤ 100) ∧ 0 ≤ i' ∧ CallD Try.prog F_spec_l3Any [Cur v a i h] fun r bs => r = confS c ∧ bs.getD 0 .dead = Cur v a i' h' := by
  obtain ⟨c, i1, h1, gc, k1, cd⟩ := c_l3Conf (v := v) ha hi h
  obtain ⟨x, i2, h2, gx, k2, cx⟩ := c_l1Below (v := v) ha k1 h1 14
  have hs : 0 ≤ c.size ∧ c.size ≤ 100 := by have := gc.size; omega
  have hx14 := gx.2.1 (by omega)
  have hcase : x = 0 ∨ x = 1 ∨ x = 2 ∨ x = 3 ∨ x = 4 ∨ x = 5 ∨ 5 < x := by omega
  rcases hcase with hx | hx | hx | hx | hx | hx | hx
  · obtain ⟨y, i3, h3, gy, k3, cy⟩ := c_l1Int (v := v) ha k2 h2 (l := [1, 2, 12, 13]) (by decide)
    refine ⟨{ c with chunks := y }, i3, h3, hs, k3, k_spec_l3Any ?_⟩
    unfold vc_spec_l3Any
    exact ⟨_, _, _, _, _, _, _, _, rfl, cd, _, _, _, rfl, cx, ⟨fun _ => ⟨_, _, _, rfl, cy, rfl, rfl⟩, fun g => absurd hx (of_decide_eq_false g)⟩⟩
  · obtain ⟨y, i3, h3, gy, k3, cy⟩ := c_l1Int (v := v) ha k2 h2 (l := [7, 8, 16, 17]) (by decide)
    refine ⟨{ c with size := y }, i3, h3, (show 0 ≤ y ∧ y ≤ 100 by simp only [List.mem_cons, List.not_mem_nil, or_false] at gy; omega), k3, k_spec_l3Any ?_⟩
    unfold vc_spec_l3Any
    exact ⟨_, _, _, _, _, _, _, _, rfl, cd, _, _, _, rfl, cx, ⟨fun g => absurd (of_decide_eq_true g) (by omega), fun _ => ⟨fun _ => ⟨_, _, _, rfl, cy, rfl, rfl⟩, fun g => absurd hx (of_decide_eq_false g)⟩⟩⟩
  · obtain ⟨y, i3, h3, gy, k3, cy⟩ := c_l1Int (v := v) ha k2 h2 (l := [1, 8, 9]) (by decide)
    refine ⟨{ c with slots := y }, i3, h3, hs, k3, k_spec_l3Any ?_⟩
    unfold vc_spec_l3Any
    exact ⟨_, _, _, _, _, _, _, _, rfl, cd, _, _, _, rfl, cx, ⟨fun g => absurd (of_decide_eq_true g) (by omega), fun _ => ⟨fun g => absurd (of_decide_eq_true g) (by omega), fun _ => ⟨fun _ => ⟨_, _, _, rfl, cy, rfl, rfl⟩, fun g => absurd hx (of_decide_eq_false g)⟩⟩⟩⟩
  · obtain ⟨y, i3, h3, gy, k3, cy⟩ := c_l1Int (v := v) ha k2 h2 (l := [0, 8, 9]) (by decide)
    refine ⟨{ c with tax := y }, i3, h3, hs, k3, k_spec_l3Any ?_⟩
    unfold vc_spec_l3Any
    exact ⟨_, _, _, _, _, _, _, _, rfl, cd, _, _, _, rfl, cx, ⟨fun g => absurd (of_decide_eq_true g) (by omega), fun _ => ⟨fun g => absurd (of_decide_eq_true g) (by omega), fun _ => ⟨fun g => absurd (of_decide_eq_true g) (by omega), fun _ => ⟨fun _ => ⟨_, _, _, rfl, cy, rfl, rfl⟩, fun g => absurd hx (of_decide_eq_false g)⟩⟩⟩⟩⟩
  · obtain ⟨y, i3, h3, gy, k3, cy⟩ := c_l1Int (v := v) ha k2 h2 (l := [0, 17]) (by decide)
    refine ⟨{ c with slice := y }, i3, h3, hs, k3, k_spec_l3Any ?_⟩
    unfold vc_spec_l3Any
    exact ⟨_, _, _, _, _, _, _, _, rfl, cd, _, _, _, rfl, cx, ⟨fun g => absurd (of_decide_eq_true g) (by omega), fun _ => ⟨fun g => absurd (of_decide_eq_true g) (by omega), fun _ => ⟨fun g => absurd (of_decide_eq_true g) (by omega), fun _ => ⟨fun g => absurd (of_decide_eq_true g) (by omega), fun _ => ⟨fun _ => ⟨_, _, _, rfl, cy, rfl, rfl⟩, fun g => absurd hx (of_decide_eq_false g)⟩⟩⟩⟩⟩⟩
  · obtain ⟨y, i3, h3, gy, k3, cy⟩ := c_l1Int (v := v) ha k2 h2 (l := [0, 5]) (by decide)
    refine ⟨{ c with gens := y }, i3, h3, hs, k3, k_spec_l3Any ?_⟩
    unfold vc_spec_l3Any
    exact ⟨_, _, _, _, _, _, _, _, rfl, cd, _, _, _, rfl, cx, ⟨fun g => absurd (of_decide_eq_true g) (by omega), fun _ => ⟨fun g => absurd (of_decide_eq_true g) (by omega), fun _ => ⟨fun g => absurd (of_decide_eq_true g) (by omega), fun _ => ⟨fun g => absurd (of_decide_eq_true g) (by omega), fun _ => ⟨fun g => absurd (of_decide_eq_true g) (by omega), fun _ => ⟨fun _ => ⟨_, _, _, rfl, cy, rfl, rfl⟩, fun g => absurd hx (of_decide_eq_false g)⟩⟩⟩⟩⟩⟩⟩
  · refine ⟨c, i2, h2, hs, k2, k_spec_l3Any ?_⟩
    unfold vc_spec_l3Any
    exact ⟨_, _, _, _, _, _, _, _, rfl, cd, _, _, _, rfl, cx, ⟨fun g => absurd (of_decide_eq_true g) (by omega), fun _ => ⟨fun g => absurd (of_decide_eq_true g) (by omega), fun _ => ⟨fun g => absurd (of_decide_eq_true g) (by omega), fun _ => ⟨fun g => absurd (of_decide_eq_true g) (by omega), fun _ => ⟨fun g => absurd (of_decide_eq_true g) (by omega), fun _ => ⟨fun g => absurd (of_decide_eq_true g) (by omega), fun _ => ⟨rfl, rfl⟩⟩⟩⟩⟩⟩⟩⟩
theorem c_ConfNewS : CallD Try.prog F_spec_ConfNew [] fun r _ => r = confS ⟨8, 8, 5, 2, 4, 3⟩ := k_spec_ConfNew rfl
abbrev tNI (n : Node) (x : Int) : SV := .tup [.agg [iC n.st, iC n.gen, iC n.ep, iC n.up, iC n.upEp, iC n.first, iC n.next, iC n.prev, .own (.sl 1 (ints n.chunks)), iC n.cur, iC n.bump, .own (.sl 3 (thgs n.things)), .own (.sl 1 (ints n.tags))], .cell (iC x)]
abbrev tCW (c : Conf) (x : Waste) : SV := .tup [.agg [iC c.chunks, iC c.size, iC c.slots, iC c.tax, iC c.slice, iC c.gens], .agg [iC x.slot, iC x.first, .own (.sl 1 (ints x.tags)), .own (.sl 1 (ints x.chunks)), iC x.done]]
abbrev codeS (v : Value) (a : List Int) : SV := oneC (.vl v (.sl 1 (byts a)))
theorem c_DrawWasteOf {v : Value} {a : List Int} (ha : a.length ≤ M63) : ∃ n x, NodeG 103 n ∧ CallD Try.prog F_spec_DrawWasteOf [codeS v a] fun r _ => r = tNI n x := by
  obtain ⟨i0, h0, k0, c0⟩ := c_l1New (v := v) ha
  obtain ⟨c, i1, h1, gc, k1, c1⟩ := c_l3Conf (v := v) ha k0 h0
  obtain ⟨n, i2, h2, hn, k2, c2⟩ := c_l10Any (v := v) ha k1 h1 (c := c) (by have := gc.size; omega)
  obtain ⟨x, i3, h3, -, -, c3⟩ := c_l1Below (v := v) ha k2 h2 6
  refine ⟨n, x, hn, k_spec_DrawWasteOf ?_⟩
  unfold vc_spec_DrawWasteOf
  exact ⟨_, _, rfl, c0, _, _, _, _, _, _, _, _, rfl, c1, _, _, _, _, _, _, _, _, _, _, _, _, _, _, _, rfl, c2, _, _, _, rfl, c3, rfl⟩
theorem c_DrawOwnSteps {v : Value} {a : List Int} (ha : a.length ≤ M63) : ∃ c x, ConfG c ∧ WasteG 111 x ∧ CallD Try.prog F_spec_DrawOwnSteps [codeS v a] fun r _ => r = tCW c x := by
  obtain ⟨i0, h0, k0, c0⟩ := c_l1New (v := v) ha
  obtain ⟨c, i1, h1, gc, k1, c1⟩ := c_l3Conf (v := v) ha k0 h0
  obtain ⟨x, i2, h2, hx, k2, c2⟩ := c_l12Any (v := v) ha k1 h1 (c := c) (by have := gc.size; omega)
  refine ⟨c, x, gc, hx, k_spec_DrawOwnSteps ?_⟩
  unfold vc_spec_DrawOwnSteps
  exact ⟨_, _, rfl, c0, _, _, _, _, _, _, _, _, rfl, c1, _, _, _, _, _, _, _, rfl, c2, rfl⟩
theorem c_DrawWasteOk {v : Value} {a : List Int} (ha : a.length ≤ M63) : ∃ c x, WasteG 111 x ∧ CallD Try.prog F_spec_DrawWasteOk [codeS v a] fun r _ => r = tCW c x := by
  obtain ⟨i0, h0, k0, c0⟩ := c_l1New (v := v) ha
  obtain ⟨c, i1, h1, gc, k1, c1⟩ := c_l3Any (v := v) ha k0 h0
  have cf := c_confOkS c
  generalize c.good = b at cf
  cases b with
  | true =>
    obtain ⟨x, i2, h2, hx, k2, c2⟩ := c_l12Any (v := v) ha k1 h1 gc
    refine ⟨c, x, hx, k_spec_DrawWasteOk ?_⟩
    unfold vc_spec_DrawWasteOk
    exact ⟨_, _, rfl, c0, _, _, _, _, _, _, _, _, rfl, c1, _, cf, fun _ => ⟨_, _, _, _, _, _, _, rfl, c2, rfl⟩, fun g => by cases g⟩
  | false =>
    obtain ⟨x, i2, h2, hx, k2, c2⟩ := c_l12Any (v := v) ha k1 h1 (c := ⟨8, 8, 5, 2, 4, 3⟩) (by decide)
    refine ⟨c, x, hx, k_spec_DrawWasteOk ?_⟩
    unfold vc_spec_DrawWasteOk
    exact ⟨_, _, rfl, c0, _, _, _, _, _, _, _, _, rfl, c1, _, cf, (fun g => by cases g), fun _ => ⟨_, _, _, _, _, _, c_ConfNewS, _, _, _, _, _, _, _, rfl, c2, rfl⟩⟩
theorem c_DrawTagsDown {v : Value} {a : List Int} (ha : a.length ≤ M63) : ∃ l : List Int, l.length ≤ 5 ∧ CallD Try.prog F_spec_DrawTagsDown [codeS v a] fun r _ => r = oI l := by
  obtain ⟨i0, h0, k0, c0⟩ := c_l1New (v := v) ha
  obtain ⟨f, hf⟩ := dB (v := v) ha
  obtain ⟨g1, k1, c1⟩ := hf (i0, h0) 5 k0
  generalize f (i0, h0) 5 = p1 at *
  obtain ⟨L, hL⟩ := Int.eq_ofNat_of_zero_le g1.1
  have hL5 : L < 5 := by have := g1.2.1 (by omega); omega
  obtain ⟨U, u0, us⟩ := iter_ex (fun s : (Int × Int) × List Int => ((f s.1 9).2, s.2 ++ [(f s.1 9).1])) (p1.2, [])
  have ui : ∀ k, 0 ≤ (U k).1.1 ∧ (U k).2.length = k := fun k => by
    induction k with
    | zero => rw [u0]; exact ⟨k1, rfl⟩
    | succ k ih =>
      obtain ⟨e1, e2⟩ := ih
      obtain ⟨-, e3, -⟩ := hf (U k).1 9 e1
      rw [us]
      exact ⟨e3, by simp [e2]⟩
  refine ⟨(U L).2, by have := (ui L).2; omega, k_spec_DrawTagsDown ?_⟩
  unfold vc_spec_DrawTagsDown
  refine ⟨_, _, rfl, c0, _, _, _, rfl, c1, fun i1 i2 es j m => ∃ y : Nat, y ≤ L ∧ j = L - y ∧ m = L - y ∧ i1 = (U y).1.1 ∧ i2 = (U y).1.2 ∧ es = ints (U y).2, ⟨L, rfl, rfl, 0, Nat.zero_le _, by rw [hL]; omega, rfl, by rw [u0], by rw [u0], by rw [u0]; rfl⟩, ?_⟩
  rintro i1 i2 es j m ⟨-, -, y, hy, rfl, rfl, rfl, rfl, rfl⟩
  obtain ⟨z1, z2⟩ := ui y
  refine ⟨fun g' => ?_, fun g' => ?_⟩
  · have g2' : (0 : Int) < (L : Int) - y := of_decide_eq_true g'
    obtain ⟨w1, w2, w3⟩ := hf (U y).1 9 z1
    refine ⟨_, _, _, rfl, w3, ?_⟩
    simp only [n_ints, z2, n_one1]
    refine ⟨by omega, by omega, by trivial, L - (y + 1), by omega, by trivial, by trivial, y + 1, by omega, by rw [wrap_id (by omega) (by omega)]; omega, by trivial, by rw [us], by rw [us], ?_⟩
    rw [us, ints_snoc]
  have hyL : y = L := by have := of_decide_eq_false g'; omega
  subst hyL
  rfl
end Go.Proofs.Ythmpdfmdhfgaaaa
