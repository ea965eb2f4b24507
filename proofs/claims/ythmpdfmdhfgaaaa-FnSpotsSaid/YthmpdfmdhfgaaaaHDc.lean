/- Contracts of small functions: rooms drawn, of each kind. -/
import Derived.Test.YthmpdfmdhfgaaaaHDb
import Derived.Test.YthmpdfmdhfgaaaaVHDc
namespace Go.Proofs.Ythmpdfmdhfgaaaa
open Go Go.Proofs.Ythmpdfmdhfgaaaa.DL
set_option maxRecDepth 100000

theorem dI {v : Value} {a : List Int} (ha : a.length ≤ M63) {l : List Int} (hl : 0 < l.length) : ∃ f : Int × Int → Int × (Int × Int), ∀ k, 0 ≤ k.1 → (f k).1 ∈ l ∧ 0 ≤ (f k).2.1 ∧
    CallD Try.prog F_spec_l1Int [Cur v a k.1 k.2, rI l] fun r bs => r = iS (f k).1 ∧ bs.getD 0 .dead = Cur v a (f k).2.1 (f k).2.2 := by
  have h : ∀ k : Int × Int, ∃ p : Int × (Int × Int), 0 ≤ k.1 → p.1 ∈ l ∧ 0 ≤ p.2.1 ∧ CallD Try.prog F_spec_l1Int [Cur v a k.1 k.2, rI l] fun r bs => r = iS p.1 ∧ bs.getD 0 .dead = Cur v a p.2.1 p.2.2 := fun k => by
    by_cases hk : 0 ≤ k.1
    · obtain ⟨t, i, h, h1, h2, h3⟩ := c_l1Int (v := v) ha hk k.2 hl
      exact ⟨(t, (i, h)), fun _ => ⟨h1, h2, h3⟩⟩
    · exact ⟨(0, (0, 0)), fun g => absurd g hk⟩
  exact Classical.skolem.1 h
set_option maxHeartbeats 4000000 in
theorem c_l7Any {v : Value} {a : List Int} (ha : a.length ≤ M63) {i : Int} (hi : 0 ≤ i) (h : Int) (c : Conf) :
    ∃ n i' h', NodeG 101 n ∧ 0 ≤ i' ∧ CallD Try.prog F_spec_l7Any [Cur v a i h, confS c] fun r bs => r = oNode n ∧ bs.getD 0 .dead = Cur v a i' h' := by
  obtain ⟨n, i1, h1, ⟨hok, hsz⟩, k1, cd⟩ := c_l7Draw (v := v) ha hi h c
  obtain ⟨x, i2, h2, gx, k2, cx⟩ := c_l1Below (v := v) ha k1 h1 14
  have hx14 := gx.2.1 (by omega)
  have hsz' := hsz
  unfold Node.sz at hsz
  obtain ⟨o1, o2, o3, o4, o5, o6, o7, o8, ⟨o9, p9⟩, o10, o11, ⟨o12, p12⟩, ⟨o13, p13⟩⟩ := hok
  have hyI : ∀ {l : List Int}, (∀ z ∈ l, -1 ≤ z ∧ z ≤ 256) → ∀ {y : Int}, y ∈ l → I64 y := fun hl y hy => by have := hl y hy; unfold I64; omega
  have hs101 : n.sz ≤ 101 := by omega
  have M : ∀ {k : Nat}, k ≤ 300 → k ≤ M63 := fun hk => by unfold M63; omega
  have hcase : x = 0 ∨ x = 1 ∨ x = 2 ∨ x = 3 ∨ x = 4 ∨ x = 5 ∨ x = 6 ∨ x = 7 ∨ 7 < x := by omega
  rcases hcase with hx | hx | hx | hx | hx | hx | hx | hx | hx
  · obtain ⟨y, i3, h3, gy, k3, cy⟩ := c_l1Below (v := v) ha k2 h2 6
    refine ⟨{ n with st := IntKind.i64.wrap (y - 1) }, i3, h3, ⟨⟨wrap_I64 _, o2, o3, o4, o5, o6, o7, o8, ⟨o9, p9⟩, o10, o11, ⟨o12, p12⟩, ⟨o13, p13⟩⟩, hs101⟩, k3, k_spec_l7Any ?_⟩
    unfold vc_spec_l7Any
    exact ⟨_, _, _, _, _, _, _, _, _, _, _, _, _, _, _, rfl, cd, _, _, _, rfl, cx, ⟨fun _ => ⟨_, _, _, rfl, cy, rfl, rfl⟩, fun g => absurd hx (of_decide_eq_false g)⟩⟩
  · obtain ⟨y, i3, h3, gy, k3, cy⟩ := c_l1Int (v := v) ha k2 h2 (l := [0, 4, 5]) (by decide)
    have hy := hyI (by decide) gy
    refine ⟨{ n with gen := y }, i3, h3, ⟨⟨o1, hy, o3, o4, o5, o6, o7, o8, ⟨o9, p9⟩, o10, o11, ⟨o12, p12⟩, ⟨o13, p13⟩⟩, hs101⟩, k3, k_spec_l7Any ?_⟩
    unfold vc_spec_l7Any
    exact ⟨_, _, _, _, _, _, _, _, _, _, _, _, _, _, _, rfl, cd, _, _, _, rfl, cx, ⟨fun g => absurd (of_decide_eq_true g) (by omega), fun _ => ⟨fun _ => ⟨_, _, _, rfl, cy, rfl, rfl⟩, fun g => absurd hx (of_decide_eq_false g)⟩⟩⟩
  · obtain ⟨y, i3, h3, gy, k3, cy⟩ := c_l1Int (v := v) ha k2 h2 (l := [-1, 1, 8, 9]) (by decide)
    have hy := hyI (by decide) gy
    refine ⟨{ n with up := y }, i3, h3, ⟨⟨o1, o2, o3, hy, o5, o6, o7, o8, ⟨o9, p9⟩, o10, o11, ⟨o12, p12⟩, ⟨o13, p13⟩⟩, hs101⟩, k3, k_spec_l7Any ?_⟩
    unfold vc_spec_l7Any
    exact ⟨_, _, _, _, _, _, _, _, _, _, _, _, _, _, _, rfl, cd, _, _, _, rfl, cx, ⟨fun g => absurd (of_decide_eq_true g) (by omega), fun _ => ⟨fun g => absurd (of_decide_eq_true g) (by omega), fun _ => ⟨fun _ => ⟨_, _, _, rfl, cy, rfl, rfl⟩, fun g => absurd hx (of_decide_eq_false g)⟩⟩⟩⟩
  · obtain ⟨y, i3, h3, gy, k3, cy⟩ := c_l1Int (v := v) ha k2 h2 (l := [0, 12, -1]) (by decide)
    have hy := hyI (by decide) gy
    refine ⟨{ n with chunks := n.chunks ++ [y] }, i3, h3, ⟨⟨o1, o2, o3, o4, o5, o6, o7, o8, ⟨by simp only [List.length_append, List.length_singleton]; exact M (by omega), fun z hz => (List.mem_append.1 hz).elim (p9 z) fun hz => by rw [List.mem_singleton.1 hz]; exact hy⟩, o10, o11, ⟨o12, p12⟩, ⟨o13, p13⟩⟩, by simp only [Node.sz, List.length_append, List.length_singleton]; omega⟩, k3, k_spec_l7Any ?_⟩
    unfold vc_spec_l7Any
    exact ⟨_, _, _, _, _, _, _, _, _, _, _, _, _, _, _, rfl, cd, _, _, _, rfl, cx, ⟨fun g => absurd (of_decide_eq_true g) (by omega), fun _ => ⟨fun g => absurd (of_decide_eq_true g) (by omega), fun _ => ⟨fun g => absurd (of_decide_eq_true g) (by omega), fun _ => ⟨fun _ => ⟨_, _, _, rfl, cy, by simp only [n_ints, n_one1]; omega, by simp only [n_ints, n_one1]; omega, by rw [ints_snoc], rfl⟩, fun g => absurd hx (of_decide_eq_false g)⟩⟩⟩⟩⟩
  · obtain ⟨y, i3, h3, gy, k3, cy⟩ := c_l1Below (v := v) ha k2 h2 4
    have hy : I64 y := by have := gy.2.1 (by omega); unfold I64; omega
    refine ⟨{ n with cur := y }, i3, h3, ⟨⟨o1, o2, o3, o4, o5, o6, o7, o8, ⟨o9, p9⟩, hy, o11, ⟨o12, p12⟩, ⟨o13, p13⟩⟩, hs101⟩, k3, k_spec_l7Any ?_⟩
    unfold vc_spec_l7Any
    exact ⟨_, _, _, _, _, _, _, _, _, _, _, _, _, _, _, rfl, cd, _, _, _, rfl, cx, ⟨fun g => absurd (of_decide_eq_true g) (by omega), fun _ => ⟨fun g => absurd (of_decide_eq_true g) (by omega), fun _ => ⟨fun g => absurd (of_decide_eq_true g) (by omega), fun _ => ⟨fun g => absurd (of_decide_eq_true g) (by omega), fun _ => ⟨fun _ => ⟨_, _, _, rfl, cy, rfl, rfl⟩, fun g => absurd hx (of_decide_eq_false g)⟩⟩⟩⟩⟩⟩
  · obtain ⟨y, i3, h3, gy, k3, cy⟩ := c_l1Int (v := v) ha k2 h2 (l := [0, 8, 17, -1]) (by decide)
    have hy := hyI (by decide) gy
    refine ⟨{ n with bump := y }, i3, h3, ⟨⟨o1, o2, o3, o4, o5, o6, o7, o8, ⟨o9, p9⟩, o10, hy, ⟨o12, p12⟩, ⟨o13, p13⟩⟩, hs101⟩, k3, k_spec_l7Any ?_⟩
    unfold vc_spec_l7Any
    exact ⟨_, _, _, _, _, _, _, _, _, _, _, _, _, _, _, rfl, cd, _, _, _, rfl, cx, ⟨fun g => absurd (of_decide_eq_true g) (by omega), fun _ => ⟨fun g => absurd (of_decide_eq_true g) (by omega), fun _ => ⟨fun g => absurd (of_decide_eq_true g) (by omega), fun _ => ⟨fun g => absurd (of_decide_eq_true g) (by omega), fun _ => ⟨fun g => absurd (of_decide_eq_true g) (by omega), fun _ => ⟨fun _ => ⟨_, _, _, rfl, cy, rfl, rfl⟩, fun g => absurd hx (of_decide_eq_false g)⟩⟩⟩⟩⟩⟩⟩
  · obtain ⟨y, i3, h3, gy, k3, cy⟩ := c_l1Int (v := v) ha k2 h2 (l := [255, 256, -1]) (by decide)
    have hy := hyI (by decide) gy
    refine ⟨{ n with tags := n.tags ++ [y] }, i3, h3, ⟨⟨o1, o2, o3, o4, o5, o6, o7, o8, ⟨o9, p9⟩, o10, o11, ⟨o12, p12⟩, ⟨by simp only [List.length_append, List.length_singleton]; exact M (by omega), fun z hz => (List.mem_append.1 hz).elim (p13 z) fun hz => by rw [List.mem_singleton.1 hz]; exact hy⟩⟩, by simp only [Node.sz, List.length_append, List.length_singleton]; omega⟩, k3, k_spec_l7Any ?_⟩
    unfold vc_spec_l7Any
    exact ⟨_, _, _, _, _, _, _, _, _, _, _, _, _, _, _, rfl, cd, _, _, _, rfl, cx, ⟨fun g => absurd (of_decide_eq_true g) (by omega), fun _ => ⟨fun g => absurd (of_decide_eq_true g) (by omega), fun _ => ⟨fun g => absurd (of_decide_eq_true g) (by omega), fun _ => ⟨fun g => absurd (of_decide_eq_true g) (by omega), fun _ => ⟨fun g => absurd (of_decide_eq_true g) (by omega), fun _ => ⟨fun g => absurd (of_decide_eq_true g) (by omega), fun _ => ⟨fun _ => ⟨_, _, _, rfl, cy, by simp only [n_ints, n_one1]; omega, by simp only [n_ints, n_one1]; omega, by rw [ints_snoc], rfl⟩, fun g => absurd hx (of_decide_eq_false g)⟩⟩⟩⟩⟩⟩⟩⟩
  · obtain ⟨y, i3, h3, gy, k3, cy⟩ := c_l1Below (v := v) ha k2 h2 100
    obtain ⟨z, i4, h4, gz, k4, cz⟩ := c_l1Below (v := v) ha k3 h3 20
    obtain ⟨u, i5, h5, gu, k5, cu⟩ := c_l1Below (v := v) ha k4 h4 3
    have hy : Thing.ok ⟨y, z, u⟩ := by
      have := gy.2.1 (by omega)
      have := gz.2.1 (by omega)
      have := gu.2.1 (by omega)
      refine ⟨?_, ?_, ?_⟩ <;> (unfold I64; simp only; omega)
    refine ⟨{ n with things := n.things ++ [⟨y, z, u⟩] }, i5, h5, ⟨⟨o1, o2, o3, o4, o5, o6, o7, o8, ⟨o9, p9⟩, o10, o11, ⟨by simp only [List.length_append, List.length_singleton]; exact M (by omega), fun z hz => (List.mem_append.1 hz).elim (p12 z) fun hz => by rw [List.mem_singleton.1 hz]; exact hy⟩, ⟨o13, p13⟩⟩, by simp only [Node.sz, List.length_append, List.length_singleton]; omega⟩, k5, k_spec_l7Any ?_⟩
    unfold vc_spec_l7Any
    exact ⟨_, _, _, _, _, _, _, _, _, _, _, _, _, _, _, rfl, cd, _, _, _, rfl, cx, ⟨fun g => absurd (of_decide_eq_true g) (by omega), fun _ => ⟨fun g => absurd (of_decide_eq_true g) (by omega), fun _ => ⟨fun g => absurd (of_decide_eq_true g) (by omega), fun _ => ⟨fun g => absurd (of_decide_eq_true g) (by omega), fun _ => ⟨fun g => absurd (of_decide_eq_true g) (by omega), fun _ => ⟨fun g => absurd (of_decide_eq_true g) (by omega), fun _ => ⟨fun g => absurd (of_decide_eq_true g) (by omega), fun _ => ⟨fun _ => ⟨_, _, _, rfl, cy, _, _, _, rfl, cz, _, _, _, rfl, cu, by simp only [n_things, n_one3']; omega, by simp only [n_things, n_one3']; omega, by rw [thgs_snoc], rfl⟩, fun g => absurd hx (of_decide_eq_false g)⟩⟩⟩⟩⟩⟩⟩⟩⟩
  · refine ⟨n, i2, h2, ⟨⟨o1, o2, o3, o4, o5, o6, o7, o8, ⟨o9, p9⟩, o10, o11, ⟨o12, p12⟩, ⟨o13, p13⟩⟩, hs101⟩, k2, k_spec_l7Any ?_⟩
    unfold vc_spec_l7Any
    exact ⟨_, _, _, _, _, _, _, _, _, _, _, _, _, _, _, rfl, cd, _, _, _, rfl, cx, ⟨fun g => absurd (of_decide_eq_true g) (by omega), fun _ => ⟨fun g => absurd (of_decide_eq_true g) (by omega), fun _ => ⟨fun g => absurd (of_decide_eq_true g) (by omega), fun _ => ⟨fun g => absurd (of_decide_eq_true g) (by omega), fun _ => ⟨fun g => absurd (of_decide_eq_true g) (by omega), fun _ => ⟨fun g => absurd (of_decide_eq_true g) (by omega), fun _ => ⟨fun g => absurd (of_decide_eq_true g) (by omega), fun _ => ⟨fun g => absurd (of_decide_eq_true g) (by omega), fun _ => ⟨rfl, rfl⟩⟩⟩⟩⟩⟩⟩⟩⟩⟩
theorem putS_G {c : Conf} {n : Node} (hn : NodeG 100 n) {sz al : Int} (hz : I64 sz) : NodeG 100 (putS c n sz al) := by
  obtain ⟨hok, hs⟩ := hn
  unfold putS
  split
  · rename_i h
    unfold putSB spotB mayB at h
    simp only [Bool.and_eq_true] at h
    have hb := nodeOk_sz h.1.1.1
    unfold Node.sz at hb
    obtain ⟨o1, o2, o3, o4, o5, o6, o7, o8, o9, o10, o11, ⟨o12, p12⟩, o13⟩ := hok
    refine ⟨⟨o1, o2, o3, o4, o5, o6, o7, o8, o9, o10, wrap_I64 _, ⟨?_, fun z hz' => ?_⟩, o13⟩, ?_⟩
    · simp only [List.length_append, List.length_singleton]; unfold M63; omega
    · rcases List.mem_append.1 hz' with hz' | hz'
      · exact p12 z hz'
      · rw [List.mem_singleton.1 hz']
        refine ⟨?_, hz, by show I64 0; unfold I64; omega⟩
        show I64 (spotN c n sz al)
        unfold spotN
        split
        · exact wrap_I64 _
        · unfold I64; omega
    · simp only [Node.sz, List.length_append, List.length_singleton]; omega
  · exact ⟨hok, hs⟩
theorem curN_G {c : Conf} {n : Node} (hn : NodeG 100 n) {k : Int} (hk : I64 k) : NodeG 100 (curN c n k) := by
  unfold curN
  split
  · rename_i h
    unfold curB at h
    simp only [Bool.and_eq_true] at h
    have hb := nodeOk_sz h.2.2
    exact ⟨cur_ok hn.ok (by have := hn.sz; omega) hk, by omega⟩
  · exact hn
theorem largeN_G {c : Conf} {n : Node} (hn : NodeG 100 n) {k sz : Int} (hz : I64 sz) (hc : sz ≤ 192) : NodeG 100 (largeN c n k sz) := by
  unfold largeN
  split
  · rename_i h
    unfold largeB at h
    simp only [Bool.and_eq_true] at h
    have hb := nodeOk_sz h.2.2.2.2
    exact ⟨big_ok hn.ok (by have := hn.sz; omega) hz (ceilDiv_le hc), by omega⟩
  · exact hn
end Go.Proofs.Ythmpdfmdhfgaaaa
