/- Contracts of small functions: pools drawn, right or not. -/
import Derived.Test.YthmpdfmdhfgaaaaHPq
import Derived.Test.YthmpdfmdhfgaaaaVHPr
namespace Go.Proofs.Ythmpdfmdhfgaaaa
open Go Go.Proofs.Ythmpdfmdhfgaaaa.DL
set_option maxRecDepth 100000

/-- The lengths of a pool that is drawn. -/
structure PoolD (p : Pool) : Prop where
  mem : p.mem.length ≤ 200
  st : p.st.length ≤ 12
  own : p.own.length ≤ 12
set_option maxHeartbeats 4000000 in
theorem c_l4Any {v : Value} {a : List Int} (ha : a.length ≤ M63) {i : Int} (hi : 0 ≤ i) (h : Int) :
    ∃ c p i' h', PoolD p ∧ 0 ≤ i' ∧ CallD Try.prog F_spec_l4Any [Cur v a i h] fun r bs => r = tCP c p ∧ bs.getD 0 .dead = Cur v a i' h' := by
  obtain ⟨c, p, i1, h1, ⟨hc, hL⟩, k1, c1⟩ := c_l4Draw (v := v) ha hi h
  obtain ⟨x, i2, h2, gx, k2, cx⟩ := c_l1Below (v := v) ha k1 h1 c.chunks
  obtain ⟨y, i3, h3, gy, k3, cy⟩ := c_l1Below (v := v) ha k2 h2 12
  obtain ⟨q3, q4, q5⟩ := hL
  have hck := hc.chunks
  have hsz := hc.size
  have hx := gx.2.1 (by omega)
  have m0 : 0 ≤ x * c.size := Int.mul_nonneg (by omega) (by omega)
  have m1 : (x + 1) * c.size ≤ c.chunks * c.size := Int.mul_le_mul_of_nonneg_right (by omega) (by omega)
  have m2 : c.chunks * c.size ≤ 12 * 16 := Int.mul_le_mul hck.2 hsz.2 (by omega) (by omega)
  rw [Int.add_mul, Int.one_mul] at m1
  have wm : IntKind.i64.wrap (x * c.size) = x * c.size := wrap_id (by omega) (by omega)
  have hD : PoolD p := ⟨by omega, by omega, by omega⟩
  have b1 : x < nI (DV.sl 1 (ints p.st)).n := by simp only [nI, n_ints]; omega
  have b2 : x < nI (DV.sl 1 (ints p.own)).n := by simp only [nI, n_ints]; omega
  have b3 : x.toNat * 1 + 1 ≤ (DV.sl 1 (ints p.st)).es.length := by rw [es_sl, ints_length]; omega
  have b4 : x.toNat * 1 + 1 ≤ (DV.sl 1 (ints p.own)).es.length := by rw [es_sl, ints_length]; omega
  have hcase : y = 0 ∨ y = 1 ∨ y = 2 ∨ y = 3 ∨ y = 4 ∨ y = 5 ∨ 5 < y := by have := gy.1; omega
  rcases hcase with hy | hy | hy | hy | hy | hy | hy
  · obtain ⟨z, i4, h4, gz, k4, cz⟩ := c_l1Int (v := v) ha k3 h3 (l := [-1, 0, 1, 3]) (by decide)
    refine ⟨c, { p with st := p.st.set x.toNat z }, i4, h4, ⟨hD.mem, by simp only [List.length_set]; exact hD.st, hD.own⟩, k4, k_spec_l4Any ?_⟩
    unfold vc_spec_l4Any
    refine ⟨_, _, _, _, _, _, _, _, _, _, _, rfl, c1, _, _, _, rfl, cx, _, _, _, rfl, cy, fun _ => ⟨_, _, _, rfl, cz, gx.1, b1, trivial, b3, ?_, rfl⟩, fun g => absurd hy (of_decide_eq_false g)⟩
    rw [Nat.mul_one, set_ints]
  · obtain ⟨z, i4, h4, gz, k4, cz⟩ := c_l1Int (v := v) ha k3 h3 (l := [-1, 0, 8, -2]) (by decide)
    refine ⟨c, { p with own := p.own.set x.toNat z }, i4, h4, ⟨hD.mem, hD.st, by simp only [List.length_set]; exact hD.own⟩, k4, k_spec_l4Any ?_⟩
    unfold vc_spec_l4Any
    refine ⟨_, _, _, _, _, _, _, _, _, _, _, rfl, c1, _, _, _, rfl, cx, _, _, _, rfl, cy, fun g => absurd (of_decide_eq_true g) (by omega), fun _ => ⟨fun _ => ⟨_, _, _, rfl, cz, gx.1, b2, trivial, b4, ?_, rfl⟩, fun g => absurd hy (of_decide_eq_false g)⟩⟩
    rw [Nat.mul_one, set_ints]
  · refine ⟨c, { p with mem := p.mem.set (x * c.size).toNat 7 }, i3, h3, ⟨by simp only [List.length_set]; exact hD.mem, hD.st, hD.own⟩, k3, k_spec_l4Any ?_⟩
    unfold vc_spec_l4Any
    refine ⟨_, _, _, _, _, _, _, _, _, _, _, rfl, c1, _, _, _, rfl, cx, _, _, _, rfl, cy, fun g => absurd (of_decide_eq_true g) (by omega), fun _ => ⟨fun g => absurd (of_decide_eq_true g) (by omega), fun _ => ⟨fun _ => ⟨?_, ?_, trivial, ?_, ?_, rfl⟩, fun g => absurd hy (of_decide_eq_false g)⟩⟩⟩
    · rw [wm]; exact m0
    · rw [wm]; simp only [nI, n_byts]; omega
    · rw [wm, es_sl, byts_length]; omega
    · rw [wm, Nat.mul_one, set_byts]
  · refine ⟨c, { p with mem := p.mem ++ [0] }, i3, h3, ⟨by simp only [List.length_append, List.length_singleton]; omega, hD.st, hD.own⟩, k3, k_spec_l4Any ?_⟩
    unfold vc_spec_l4Any
    refine ⟨_, _, _, _, _, _, _, _, _, _, _, rfl, c1, _, _, _, rfl, cx, _, _, _, rfl, cy, fun g => absurd (of_decide_eq_true g) (by omega), fun _ => ⟨fun g => absurd (of_decide_eq_true g) (by omega), fun _ => ⟨fun g => absurd (of_decide_eq_true g) (by omega), fun _ => ⟨fun _ => ⟨?_, ?_, ?_, rfl⟩, fun g => absurd hy (of_decide_eq_false g)⟩⟩⟩⟩
    · simp only [n_one, byts_length, List.length_singleton]; omega
    · simp only [n_one, byts_length, List.length_singleton]; omega
    · show _ = tCP c _
      simp only [tCP, byts, List.map_append, List.map_cons, List.map_nil]
  · obtain ⟨d, i4, h4, gd, k4, cd⟩ := c_l3Any (v := v) ha k3 h3
    refine ⟨d, p, i4, h4, hD, k4, k_spec_l4Any ?_⟩
    unfold vc_spec_l4Any
    exact ⟨_, _, _, _, _, _, _, _, _, _, _, rfl, c1, _, _, _, rfl, cx, _, _, _, rfl, cy, fun g => absurd (of_decide_eq_true g) (by omega), fun _ => ⟨fun g => absurd (of_decide_eq_true g) (by omega), fun _ => ⟨fun g => absurd (of_decide_eq_true g) (by omega), fun _ => ⟨fun g => absurd (of_decide_eq_true g) (by omega), fun _ => ⟨fun _ => ⟨_, _, _, _, _, _, _, _, rfl, cd, rfl, rfl⟩, fun g => absurd hy (of_decide_eq_false g)⟩⟩⟩⟩⟩
  · refine ⟨c, { p with st := p.st.drop 1 }, i3, h3, ⟨hD.mem, by simp only [List.length_drop]; omega, hD.own⟩, k3, k_spec_l4Any ?_⟩
    unfold vc_spec_l4Any
    refine ⟨_, _, _, _, _, _, _, _, _, _, _, rfl, c1, _, _, _, rfl, cx, _, _, _, rfl, cy, fun g => absurd (of_decide_eq_true g) (by omega), fun _ => ⟨fun g => absurd (of_decide_eq_true g) (by omega), fun _ => ⟨fun g => absurd (of_decide_eq_true g) (by omega), fun _ => ⟨fun g => absurd (of_decide_eq_true g) (by omega), fun _ => ⟨fun g => absurd (of_decide_eq_true g) (by omega), fun _ => ⟨fun _ => ⟨by omega, by simp only [nI, n_ints]; omega, Int.le_refl _, ?_, rfl⟩, fun g => absurd hy (of_decide_eq_false g)⟩⟩⟩⟩⟩⟩
    have e : List.drop (Int.toNat 1 * 1) (List.take ((nI (DV.sl 1 (ints p.st)).n).toNat * 1) (ints p.st)) = ints (p.st.drop 1) := by
      simp only [nI, n_ints, Nat.mul_one, Int.toNat_natCast, take_ints, List.take_length]
      exact drop_ints _ _
    rw [e]
  · refine ⟨c, p, i3, h3, hD, k3, k_spec_l4Any ?_⟩
    unfold vc_spec_l4Any
    exact ⟨_, _, _, _, _, _, _, _, _, _, _, rfl, c1, _, _, _, rfl, cx, _, _, _, rfl, cy, fun g => absurd (of_decide_eq_true g) (by omega), fun _ => ⟨fun g => absurd (of_decide_eq_true g) (by omega), fun _ => ⟨fun g => absurd (of_decide_eq_true g) (by omega), fun _ => ⟨fun g => absurd (of_decide_eq_true g) (by omega), fun _ => ⟨fun g => absurd (of_decide_eq_true g) (by omega), fun _ => ⟨fun g => absurd (of_decide_eq_true g) (by omega), fun _ => ⟨rfl, rfl⟩⟩⟩⟩⟩⟩⟩
abbrev tPI (p : Pool) (n : Int) : SV := .tup [.agg [.own (.sl 1 (byts p.mem)), .own (.sl 1 (ints p.st)), .own (.sl 1 (ints p.own))], .cell (iC n)]
abbrev tCPI (c : Conf) (p : Pool) (n : Int) : SV := .tup [.agg [iC c.chunks, iC c.size, iC c.slots, iC c.tax, iC c.slice, iC c.gens], .agg [.own (.sl 1 (byts p.mem)), .own (.sl 1 (ints p.st)), .own (.sl 1 (ints p.own))], .cell (iC n)]
theorem c_DrawPoolOk {v : Value} {a : List Int} (ha : a.length ≤ M63) : ∃ c p, PoolD p ∧ CallD Try.prog F_spec_DrawPoolOk [codeS v a] fun r _ => r = tCP c p := by
  obtain ⟨i0, h0, k0, c0⟩ := c_l1New (v := v) ha
  obtain ⟨c, p, i1, h1, hp, k1, c1⟩ := c_l4Any (v := v) ha k0 h0
  refine ⟨c, p, hp, k_spec_DrawPoolOk ?_⟩
  unfold vc_spec_DrawPoolOk
  exact ⟨_, _, rfl, c0, _, _, _, _, _, _, _, _, _, _, _, rfl, c1, rfl⟩
theorem c_DrawCountOf {v : Value} {a : List Int} (ha : a.length ≤ M63) : ∃ p n, PoolD p ∧ CallD Try.prog F_spec_DrawCountOf [codeS v a] fun r _ => r = tPI p n := by
  obtain ⟨i0, h0, k0, c0⟩ := c_l1New (v := v) ha
  obtain ⟨c, p, i1, h1, hp, k1, c1⟩ := c_l4Any (v := v) ha k0 h0
  obtain ⟨x, i2, h2, gx, k2, cx⟩ := c_l1Below (v := v) ha k1 h1 4
  refine ⟨p, x, hp, k_spec_DrawCountOf ?_⟩
  unfold vc_spec_DrawCountOf
  exact ⟨_, _, rfl, c0, _, _, _, _, _, _, _, _, _, _, _, rfl, c1, _, _, _, rfl, cx, rfl⟩
theorem c_DrawChunkBytes {v : Value} {a : List Int} (ha : a.length ≤ M63) : ∃ c p n, PoolD p ∧ CallD Try.prog F_spec_DrawChunkBytes [codeS v a] fun r _ => r = tCPI c p n := by
  obtain ⟨i0, h0, k0, c0⟩ := c_l1New (v := v) ha
  obtain ⟨c, p, i1, h1, hp, k1, c1⟩ := c_l4Any (v := v) ha k0 h0
  obtain ⟨x, i2, h2, gx, k2, cx⟩ := c_l1Below (v := v) ha k1 h1 14
  refine ⟨c, p, IntKind.i64.wrap (x - 1), hp, k_spec_DrawChunkBytes ?_⟩
  unfold vc_spec_DrawChunkBytes
  exact ⟨_, _, rfl, c0, _, _, _, _, _, _, _, _, _, _, _, rfl, c1, _, _, _, rfl, cx, rfl⟩
theorem c_DrawOwnedBy {v : Value} {a : List Int} (ha : a.length ≤ M63) : ∃ p n, PoolD p ∧ CallD Try.prog F_spec_DrawOwnedBy [codeS v a] fun r _ => r = tPI p n := by
  obtain ⟨i0, h0, k0, c0⟩ := c_l1New (v := v) ha
  obtain ⟨c, p, i1, h1, hp, k1, c1⟩ := c_l4Any (v := v) ha k0 h0
  obtain ⟨x, i2, h2, gx, k2, cx⟩ := c_l1Below (v := v) ha k1 h1 9
  refine ⟨p, IntKind.i64.wrap (x - 1), hp, k_spec_DrawOwnedBy ?_⟩
  unfold vc_spec_DrawOwnedBy
  exact ⟨_, _, rfl, c0, _, _, _, _, _, _, _, _, _, _, _, rfl, c1, _, _, _, rfl, cx, rfl⟩
end Go.Proofs.Ythmpdfmdhfgaaaa
