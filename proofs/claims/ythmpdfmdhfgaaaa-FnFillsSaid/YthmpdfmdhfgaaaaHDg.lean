/- Contracts of small functions: rooms drawn, with what is put into them. -/
import Derived.Test.YthmpdfmdhfgaaaaHDd
import Derived.Test.YthmpdfmdhfgaaaaVHDg
namespace Go.Proofs.Ythmpdfmdhfgaaaa
open Go Go.Proofs.Ythmpdfmdhfgaaaa.DL
set_option maxRecDepth 100000

abbrev tCNII (c : Conf) (n : Node) (x y : Int) : SV := .tup [.agg [iC c.chunks, iC c.size, iC c.slots, iC c.tax, iC c.slice, iC c.gens], .agg [iC n.st, iC n.gen, iC n.ep, iC n.up, iC n.upEp, iC n.first, iC n.next, iC n.prev, .own (.sl 1 (ints n.chunks)), iC n.cur, iC n.bump, .own (.sl 3 (thgs n.things)), .own (.sl 1 (ints n.tags))], .cell (iC x), .cell (iC y)]
abbrev tCNI (c : Conf) (n : Node) (x : Int) : SV := .tup [.agg [iC c.chunks, iC c.size, iC c.slots, iC c.tax, iC c.slice, iC c.gens], .agg [iC n.st, iC n.gen, iC n.ep, iC n.up, iC n.upEp, iC n.first, iC n.next, iC n.prev, .own (.sl 1 (ints n.chunks)), iC n.cur, iC n.bump, .own (.sl 3 (thgs n.things)), .own (.sl 1 (ints n.tags))], .cell (iC x)]
theorem c_DrawPutLarge {v : Value} {a : List Int} (ha : a.length ≤ M63) : ∃ c n x y, (ConfG c ∧ NodeG 103 n ∧ I64 x ∧ (8 ≤ y ∧ y ≤ 200)) ∧ CallD Try.prog F_spec_DrawPutLarge [codeS v a] fun r _ => r = tCNII c n x y := by
  obtain ⟨i0, h0, k0, c0⟩ := c_l1New (v := v) ha
  obtain ⟨c, i1, h1, gc, k1, c1⟩ := c_l3Conf (v := v) ha k0 h0
  obtain ⟨n, i2, h2, hn, k2, c2⟩ := c_l10Any (v := v) ha k1 h1 (c := c) (by have := gc.size; omega)
  obtain ⟨x, i3, h3, -, k3, c3⟩ := c_l1Below (v := v) ha k2 h2 8
  obtain ⟨y, i4, h4, g4, k4, c4⟩ := c_l1Int (v := v) ha k3 h3 (l := [8, 9, 16, 17, 24, 33, 200]) (by decide)
  refine ⟨c, n, IntKind.i64.wrap (x - 1), y, ⟨gc, hn, wrap_I64 _, ?_⟩, k_spec_DrawPutLarge ?_⟩
  · simp only [List.mem_cons, List.not_mem_nil, or_false] at g4
    omega
  · unfold vc_spec_DrawPutLarge
    exact ⟨_, _, rfl, c0, _, _, _, _, _, _, _, _, rfl, c1, _, _, _, _, _, _, _, _, _, _, _, _, _, _, _, rfl, c2, _, _, _, rfl, c3, _, _, _, rfl, c4, rfl⟩
theorem c_DrawNewCur {v : Value} {a : List Int} (ha : a.length ≤ M63) : ∃ c n x, (ConfG c ∧ NodeG 103 n ∧ (-1 ≤ x ∧ x ≤ 7)) ∧ CallD Try.prog F_spec_DrawNewCur [codeS v a] fun r _ => r = tCNI c n x := by
  obtain ⟨i0, h0, k0, c0⟩ := c_l1New (v := v) ha
  obtain ⟨c, i1, h1, gc, k1, c1⟩ := c_l3Conf (v := v) ha k0 h0
  obtain ⟨n, i2, h2, hn, k2, c2⟩ := c_l10Any (v := v) ha k1 h1 (c := c) (by have := gc.size; omega)
  obtain ⟨x, i3, h3, g3, k3, c3⟩ := c_l1Below (v := v) ha k2 h2 8
  have gx := g3.2.1 (by omega)
  refine ⟨c, n, IntKind.i64.wrap (x - 1), ⟨gc, hn, by rw [wrap_id (by omega) (by omega)]; omega⟩, k_spec_DrawNewCur ?_⟩
  unfold vc_spec_DrawNewCur
  exact ⟨_, _, rfl, c0, _, _, _, _, _, _, _, _, rfl, c1, _, _, _, _, _, _, _, _, _, _, _, _, _, _, _, rfl, c2, _, _, _, rfl, c3, rfl⟩
theorem c_l10Size {v : Value} {a : List Int} (ha : a.length ≤ M63) {i : Int} (hi : 0 ≤ i) (h : Int) :
    ∃ x i' h', I64 x ∧ 0 ≤ i' ∧ CallD Try.prog F_spec_l10Size [Cur v a i h] fun r bs => r = iS x ∧ bs.getD 0 .dead = Cur v a i' h' := by
  obtain ⟨x, i1, h1, g1, k1, c1⟩ := c_l1Int (v := v) ha hi h (l := [1, 2, 3, 4, 5, 8, 9, 16, 0, -1]) (by decide)
  refine ⟨x, i1, h1, ?_, k1, k_spec_l10Size ?_⟩
  · simp only [List.mem_cons, List.not_mem_nil, or_false] at g1
    unfold I64; omega
  · unfold vc_spec_l10Size
    exact ⟨_, _, _, rfl, c1, rfl, rfl⟩
theorem c_DrawSpotIn {v : Value} {a : List Int} (ha : a.length ≤ M63) : ∃ c n x y, (ConfG c ∧ NodeG 103 n) ∧ CallD Try.prog F_spec_DrawSpotIn [codeS v a] fun r _ => r = tCNII c n x y := by
  obtain ⟨i0, h0, k0, c0⟩ := c_l1New (v := v) ha
  obtain ⟨c, i1, h1, gc, k1, c1⟩ := c_l3Conf (v := v) ha k0 h0
  obtain ⟨n, i2, h2, hn, k2, c2⟩ := c_l10Any (v := v) ha k1 h1 (c := c) (by have := gc.size; omega)
  obtain ⟨x, i3, h3, -, k3, c3⟩ := c_l10Size (v := v) ha k2 h2
  obtain ⟨y, i4, h4, -, k4, c4⟩ := c_l1Int (v := v) ha k3 h3 (l := [1, 1, 2, 4, 3, 0]) (by decide)
  refine ⟨c, n, x, y, ⟨gc, hn⟩, k_spec_DrawSpotIn ?_⟩
  unfold vc_spec_DrawSpotIn
  exact ⟨_, _, rfl, c0, _, _, _, _, _, _, _, _, rfl, c1, _, _, _, _, _, _, _, _, _, _, _, _, _, _, _, rfl, c2, _, _, _, rfl, c3, _, _, _, rfl, c4, rfl⟩
theorem c_DrawPutSmall {v : Value} {a : List Int} (ha : a.length ≤ M63) : ∃ c n x y, (ConfG c ∧ NodeG 103 n) ∧ CallD Try.prog F_spec_DrawPutSmall [codeS v a] fun r _ => r = tCNII c n x y := by
  obtain ⟨c, n, x, y, h, c1⟩ := c_DrawSpotIn (v := v) ha
  refine ⟨c, n, x, y, h, k_spec_DrawPutSmall ?_⟩
  unfold vc_spec_DrawPutSmall
  exact ⟨_, _, _, _, _, _, _, _, _, _, _, _, _, _, _, _, _, _, _, _, _, c1, rfl⟩
end Go.Proofs.Ythmpdfmdhfgaaaa
