/- Contracts of small functions: objects drawn, side by side or not. -/
import Derived.Test.YthmpdfmdhfgaaaaHDe
import Derived.Test.YthmpdfmdhfgaaaaVHDh
namespace Go.Proofs.Ythmpdfmdhfgaaaa
open Go Go.Proofs.Ythmpdfmdhfgaaaa.DL
set_option maxRecDepth 100000

abbrev tTT (t u : Thing) : SV := .tup [.agg [iC t.pos, iC t.len, iC t.run], .agg [iC u.pos, iC u.len, iC u.run]]
abbrev tCN (c : Conf) (n : Node) : SV := .tup [.agg [iC c.chunks, iC c.size, iC c.slots, iC c.tax, iC c.slice, iC c.gens], .agg [iC n.st, iC n.gen, iC n.ep, iC n.up, iC n.upEp, iC n.first, iC n.next, iC n.prev, .own (.sl 1 (ints n.chunks)), iC n.cur, iC n.bump, .own (.sl 3 (thgs n.things)), .own (.sl 1 (ints n.tags))]]
theorem c_DrawApart {v : Value} {a : List Int} (ha : a.length ≤ M63) : ∃ t u, ((0 ≤ t.pos ∧ t.pos < 10) ∧ (0 ≤ t.len ∧ t.len < 5) ∧ (0 ≤ u.pos ∧ u.pos < 10) ∧ (0 ≤ u.len ∧ u.len < 5) ∧ t.ok ∧ u.ok) ∧ CallD Try.prog F_spec_DrawApart [codeS v a] fun r _ => r = tTT t u := by
  obtain ⟨i0, h0, k0, c0⟩ := c_l1New (v := v) ha
  obtain ⟨x1, i1, h1, g1, k1, c1⟩ := c_l1Below (v := v) ha k0 h0 10
  obtain ⟨x2, i2, h2, g2, k2, c2⟩ := c_l1Below (v := v) ha k1 h1 5
  obtain ⟨x3, i3, h3, g3, k3, c3⟩ := c_l1Below (v := v) ha k2 h2 10
  obtain ⟨x4, i4, h4, g4, k4, c4⟩ := c_l1Below (v := v) ha k3 h3 5
  have a1 := g1.2.1 (by omega)
  have a2 := g2.2.1 (by omega)
  have a3 := g3.2.1 (by omega)
  have a4 := g4.2.1 (by omega)
  refine ⟨⟨x1, x2, 0⟩, ⟨x3, x4, 0⟩, ⟨⟨g1.1, a1⟩, ⟨g2.1, a2⟩, ⟨g3.1, a3⟩, ⟨g4.1, a4⟩, ⟨?_, ?_, ?_⟩, ?_, ?_, ?_⟩, k_spec_DrawApart ?_⟩
  · unfold I64; simp only; omega
  · unfold I64; simp only; omega
  · unfold I64; simp only; omega
  · unfold I64; simp only; omega
  · unfold I64; simp only; omega
  · unfold I64; simp only; omega
  · unfold vc_spec_DrawApart
    exact ⟨_, _, rfl, c0, _, _, _, rfl, c1, _, _, _, rfl, c2, _, _, _, rfl, c3, _, _, _, rfl, c4, rfl⟩
theorem c_DrawAllApart {v : Value} {a : List Int} (ha : a.length ≤ M63) : ∃ l : List Thing, (l.length ≤ 104 ∧ ∀ t ∈ l, t.ok) ∧ CallD Try.prog F_spec_DrawAllApart [codeS v a] fun r _ => r = oTh l := by
  obtain ⟨i0, h0, k0, c0⟩ := c_l1New (v := v) ha
  obtain ⟨c, i1, h1, gc, k1, c1⟩ := c_l3Conf (v := v) ha k0 h0
  obtain ⟨n, i2, h2, ⟨hok, hsz⟩, k2, c2⟩ := c_l10Draw (v := v) ha k1 h1 (c := c) (by have := gc.size; omega)
  obtain ⟨b, i3, h3, k3, c3⟩ := c_l1Once (v := v) ha k2 h2 3
  have hto : ∀ t ∈ n.things, t.ok := hok.2.2.2.2.2.2.2.2.2.2.2.1.2
  unfold Node.sz at hsz
  have hn : nI (DV.sl 3 (thgs n.things)).n = n.things.length := by simp only [nI, n_things]
  obtain ⟨n1, n2, n3, n4, n5, n6, n7, n8, nc, n9, n10, nth, ntg⟩ := n
  simp only at hn hto hsz
  cases nth with
  | nil =>
    refine ⟨[], ⟨by simp, fun t ht => by cases ht⟩, k_spec_DrawAllApart ?_⟩
    unfold vc_spec_DrawAllApart
    exact ⟨_, _, rfl, c0, _, _, _, _, _, _, _, _, rfl, c1, _, _, _, _, _, _, _, _, _, _, _, _, _, _, _, rfl, c2, (fun g => by rw [hn] at g; simp at g), fun _ => rfl⟩
  | cons t r =>
    have hl : (t :: r).length ≤ 103 := by omega
    cases b with
    | true =>
      refine ⟨(t :: r) ++ [t], ⟨by simp at hl ⊢; omega, fun u hu => ?_⟩, k_spec_DrawAllApart ?_⟩
      · rcases List.mem_append.1 hu with hu | hu
        · exact hto u hu
        · rw [List.mem_singleton.1 hu]; exact hto t (List.mem_cons_self ..)
      unfold vc_spec_DrawAllApart
      have hlen : ∀ j, j < 3 → j < (thgs (t :: r)).length := fun j hj => by rw [things_length]; simp; omega
      refine ⟨_, _, rfl, c0, _, _, _, _, _, _, _, _, rfl, c1, _, _, _, _, _, _, _, _, _, _, _, _, _, _, _, rfl, c2, fun _ => ⟨_, _, _, rfl, c3, fun _ => ⟨by omega, by rw [hn]; simp only [List.length_cons]; omega, ⟨(show (0 : Nat) + 11 < 13 by omega), hlen 0 (by omega), trivial⟩, rfl, ⟨(show (0 : Nat) + 11 < 13 by omega), hlen 1 (by omega), trivial⟩, rfl, ⟨(show (0 : Nat) + 11 < 13 by omega), hlen 2 (by omega), trivial⟩, rfl, ?_, ?_, ?_⟩, fun g => by cases g⟩, fun g => by rw [hn] at g; simp at g⟩
      · rw [n_things, DV.n_eq]; simp at hl ⊢; omega
      · rw [n_things, DV.n_eq]; simp at hl ⊢; omega
      · show oneC (.own (.sl 3 (thgs (t :: r) ++ [iV t.pos, iV t.len, iV t.run]))) = _
        rw [thgs_snoc1]
    | false =>
      refine ⟨t :: r, ⟨by omega, hto⟩, k_spec_DrawAllApart ?_⟩
      unfold vc_spec_DrawAllApart
      exact ⟨_, _, rfl, c0, _, _, _, _, _, _, _, _, rfl, c1, _, _, _, _, _, _, _, _, _, _, _, _, _, _, _, rfl, c2, (fun _ => ⟨_, _, _, rfl, c3, (fun g => by cases g), fun _ => rfl⟩), fun _ => rfl⟩
theorem c_DrawInChunks {v : Value} {a : List Int} (ha : a.length ≤ M63) : ∃ c n, (ConfG c ∧ NodeG 103 n) ∧ CallD Try.prog F_spec_DrawInChunks [codeS v a] fun r _ => r = tCN c n := by
  obtain ⟨i0, h0, k0, c0⟩ := c_l1New (v := v) ha
  obtain ⟨c, i1, h1, gc, k1, c1⟩ := c_l3Conf (v := v) ha k0 h0
  obtain ⟨n, i2, h2, hn, k2, c2⟩ := c_l10Any (v := v) ha k1 h1 (c := c) (by have := gc.size; omega)
  obtain ⟨b, i3, h3, k3, c3⟩ := c_l1Once (v := v) ha k2 h2 3
  have hl : nI (DV.sl 1 (ints n.chunks)).n = n.chunks.length := by simp only [nI, n_ints]
  by_cases hc : b = true ∧ 0 < n.chunks.length
  · obtain ⟨rfl, hc⟩ := hc
    obtain ⟨⟨o1, o2, o3, o4, o5, o6, o7, o8, ⟨o9, p9⟩, o10, o11, o12, o13⟩, hs⟩ := hn
    refine ⟨c, { n with chunks := n.chunks.drop 1 }, ⟨gc, ⟨o1, o2, o3, o4, o5, o6, o7, o8, ⟨by simp; omega, fun x hx => p9 x (List.mem_of_mem_drop hx)⟩, o10, o11, o12, o13⟩, ?_⟩, k_spec_DrawInChunks ?_⟩
    · unfold Node.sz at hs ⊢
      simp only [List.length_drop]
      omega
    · unfold vc_spec_DrawInChunks
      refine ⟨_, _, rfl, c0, _, _, _, _, _, _, _, _, rfl, c1, _, _, _, _, _, _, _, _, _, _, _, _, _, _, _, rfl, c2, (fun _ => ⟨_, _, _, rfl, c3, fun _ => ⟨by omega, by rw [hl]; omega, Int.le_refl _, ?_⟩, fun g => by cases g⟩), fun g => by rw [hl] at g; have := of_decide_eq_false g; omega⟩
      have e : List.drop (Int.toNat 1 * 1) (List.take ((nI (DV.sl 1 (ints n.chunks)).n).toNat * 1) (ints n.chunks)) = ints (n.chunks.drop 1) := by
        rw [hl]
        simp only [Nat.mul_one, Int.toNat_natCast, take_ints, List.take_length]
        exact drop_ints _ _
      rw [e]
  · refine ⟨c, n, ⟨gc, hn⟩, k_spec_DrawInChunks ?_⟩
    unfold vc_spec_DrawInChunks
    exact ⟨_, _, rfl, c0, _, _, _, _, _, _, _, _, rfl, c1, _, _, _, _, _, _, _, _, _, _, _, _, _, _, _, rfl, c2, (fun g => ⟨_, _, _, rfl, c3, (fun g2 => absurd ⟨g2, by simpa [hl] using g⟩ hc), fun _ => rfl⟩), fun _ => rfl⟩
end Go.Proofs.Ythmpdfmdhfgaaaa
