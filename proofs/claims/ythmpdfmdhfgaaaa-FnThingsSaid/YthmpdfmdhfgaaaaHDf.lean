/- Contracts of small functions: odd numbers, bytes, handles and places drawn; objects with bytes. -/
import Derived.Test.YthmpdfmdhfgaaaaHDd
import Derived.Test.YthmpdfmdhfgaaaaVHDf
namespace Go.Proofs.Ythmpdfmdhfgaaaa
open Go Go.Proofs.Ythmpdfmdhfgaaaa.DL
set_option maxRecDepth 100000

theorem c_l1Odd {v : Value} {a : List Int} (ha : a.length ≤ M63) {i : Int} (hi : 0 ≤ i) (h : Int) :
    ∃ x i' h', I64 x ∧ 0 ≤ i' ∧ CallD Try.prog F_spec_l1Odd [Cur v a i h] fun r bs => r = iS x ∧ bs.getD 0 .dead = Cur v a i' h' := by
  obtain ⟨x, i1, h1, g1, k1, c1⟩ := c_l1Int (v := v) ha hi h (l := [-1, 0, 1, 2, 255, 256, 65535, 2147483647, 2147483648, 4294967295, 4294967296, -2147483648, 9223372036854775807, -9223372036854775808]) (by decide)
  refine ⟨x, i1, h1, ?_, k1, k_spec_l1Odd ?_⟩
  · simp only [List.mem_cons, List.not_mem_nil, or_false] at g1
    unfold I64; omega
  · unfold vc_spec_l1Odd
    exact ⟨_, _, _, rfl, c1, rfl, rfl⟩
theorem c_l1Raw {v : Value} {a : List Int} (ha : a.length ≤ M63) {i : Int} (hi : 0 ≤ i) (h : Int) :
    ∃ x i' h', I64 x ∧ 0 ≤ i' ∧ CallD Try.prog F_spec_l1Raw [Cur v a i h] fun r bs => r = iS x ∧ bs.getD 0 .dead = Cur v a i' h' := by
  obtain ⟨b, i1, h1, k1, c1⟩ := c_l1Once (v := v) ha hi h 2
  cases b with
  | true =>
    obtain ⟨x, i2, h2, g2, k2, c2⟩ := c_l1Odd (v := v) ha k1 h1
    refine ⟨x, i2, h2, g2, k2, k_spec_l1Raw ?_⟩
    unfold vc_spec_l1Raw
    exact ⟨_, _, _, rfl, c1, fun _ => ⟨_, _, _, rfl, c2, rfl, rfl⟩, fun g => by cases g⟩
  | false =>
    obtain ⟨x, i2, h2, g2, k2, c2⟩ := c_l1Int (v := v) ha k1 h1 (l := [-1, 1000000000, 1000000001]) (by decide)
    refine ⟨x, i2, h2, ?_, k2, k_spec_l1Raw ?_⟩
    · simp only [List.mem_cons, List.not_mem_nil, or_false] at g2
      unfold I64; omega
    · unfold vc_spec_l1Raw
      exact ⟨_, _, _, rfl, c1, (fun g => by cases g), fun _ => ⟨_, _, _, rfl, c2, rfl, rfl⟩⟩
theorem c_l2Spot {v : Value} {a : List Int} (ha : a.length ≤ M63) {i : Int} (hi : 0 ≤ i) (h n : Int) :
    ∃ x i' h', I64 x ∧ 0 ≤ i' ∧ CallD Try.prog F_spec_l2Spot [Cur v a i h, iS n] fun r bs => r = iS x ∧ bs.getD 0 .dead = Cur v a i' h' := by
  obtain ⟨b, i1, h1, k1, c1⟩ := c_l1Once (v := v) ha hi h 8
  cases b with
  | true =>
    obtain ⟨x, i2, h2, g2, k2, c2⟩ := c_l1Raw (v := v) ha k1 h1
    refine ⟨x, i2, h2, g2, k2, k_spec_l2Spot ?_⟩
    unfold vc_spec_l2Spot
    exact ⟨_, _, _, rfl, c1, fun _ => ⟨_, _, _, rfl, c2, rfl, rfl⟩, fun g => by cases g⟩
  | false =>
    obtain ⟨x, i2, h2, g2, k2, c2⟩ := c_l1Below (v := v) ha k1 h1 (IntKind.i64.wrap (n + 2))
    refine ⟨x, i2, h2, below_I64 g2 (wrap_I64 _), k2, k_spec_l2Spot ?_⟩
    unfold vc_spec_l2Spot
    exact ⟨_, _, _, rfl, c1, (fun g => by cases g), fun _ => ⟨_, _, _, rfl, c2, rfl, rfl⟩⟩
/-- What l1Byte gives, as a function of the cursor. -/
theorem dY {v : Value} {a : List Int} (ha : a.length ≤ M63) : ∃ f : Int × Int → Int × (Int × Int), ∀ k, 0 ≤ k.1 → (0 ≤ (f k).1 ∧ (f k).1 ≤ 255) ∧ 0 ≤ (f k).2.1 ∧
    CallD Try.prog F_spec_l1Byte [Cur v a k.1 k.2] fun r bs => r = iS (f k).1 ∧ bs.getD 0 .dead = Cur v a (f k).2.1 (f k).2.2 := by
  have h : ∀ k : Int × Int, ∃ p : Int × (Int × Int), 0 ≤ k.1 → (0 ≤ p.1 ∧ p.1 ≤ 255) ∧ 0 ≤ p.2.1 ∧ CallD Try.prog F_spec_l1Byte [Cur v a k.1 k.2] fun r bs => r = iS p.1 ∧ bs.getD 0 .dead = Cur v a p.2.1 p.2.2 := fun k => by
    by_cases hk : 0 ≤ k.1
    · obtain ⟨t, i, h, h1, h2, h3⟩ := c_l1Byte (v := v) ha hk k.2
      exact ⟨(t, (i, h)), fun _ => ⟨h1, h2, h3⟩⟩
    · exact ⟨(0, (0, 0)), fun g => absurd g hk⟩
  exact Classical.skolem.1 h
theorem c_l1Bytes {v : Value} {a : List Int} (ha : a.length ≤ M63) {i : Int} (hi : 0 ≤ i) (h : Int) {n : Int} (hn : 0 ≤ n ∧ n ≤ 1048576) :
    ∃ l i' h', ((l.length : Int) = n ∧ ∀ x ∈ l, 0 ≤ x ∧ x ≤ 255) ∧ 0 ≤ i' ∧ CallD Try.prog F_spec_l1Bytes [Cur v a i h, iS n] fun r bs => r = oB l ∧ bs.getD 0 .dead = Cur v a i' h' := by
  obtain ⟨f, hf⟩ := dY (v := v) ha
  obtain ⟨L, rfl⟩ := Int.eq_ofNat_of_zero_le hn.1
  obtain ⟨U, u0, us⟩ := iter_ex (fun s : (Int × Int) × List Int => ((f s.1).2, s.2 ++ [(f s.1).1])) ((i, h), [])
  have ui : ∀ k, 0 ≤ (U k).1.1 ∧ (U k).2.length = k ∧ ∀ x ∈ (U k).2, 0 ≤ x ∧ x ≤ 255 := fun k => by
    induction k with
    | zero => rw [u0]; exact ⟨hi, rfl, fun x hx => by cases hx⟩
    | succ k ih =>
      obtain ⟨e1, e2, e3⟩ := ih
      obtain ⟨e4, e5, -⟩ := hf (U k).1 e1
      rw [us]
      refine ⟨e5, by simp [e2], fun x hx => ?_⟩
      rcases List.mem_append.1 hx with hx | hx
      · exact e3 x hx
      · rw [List.mem_singleton.1 hx]; exact e4
  obtain ⟨w1, w2, w3⟩ := ui L
  refine ⟨(U L).2, (U L).1.1, (U L).1.2, ⟨by rw [w2], w3⟩, w1, k_spec_l1Bytes ?_⟩
  unfold vc_spec_l1Bytes
  refine ⟨fun i1 i2 es j m => ∃ y : Nat, y ≤ L ∧ j = y ∧ m = L - y ∧ i1 = (U y).1.1 ∧ i2 = (U y).1.2 ∧ es = byts (U y).2, ⟨L, rfl, rfl, 0, Nat.zero_le _, rfl, rfl, by rw [u0], by rw [u0], by rw [u0]; rfl⟩, ?_⟩
  rintro i1 i2 es j m ⟨-, -, y, hy, rfl, rfl, rfl, rfl, rfl⟩
  obtain ⟨z1, z2, z3⟩ := ui y
  refine ⟨fun g' => ?_, fun g' => ?_⟩
  · have g2' : (y : Int) < L := of_decide_eq_true g'
    obtain ⟨q1, q2, q3⟩ := hf (U y).1 z1
    have e8 : IntKind.u8.wrap (f (U y).1).1 = (f (U y).1).1 := by rw [wrap8]; omega
    refine ⟨_, _, _, rfl, q3, ?_⟩
    simp only [n_byts, z2, n_one1]
    refine ⟨by omega, by omega, by trivial, L - (y + 1), by omega, by trivial, by trivial, y + 1, by omega, by rw [wrap_id (by omega) (by omega)]; omega, by trivial, by rw [us], by rw [us], ?_⟩
    rw [us, e8]
    simp [byts]
  have hyL : y = L := by have := of_decide_eq_false g'; omega
  subst hyL
  exact ⟨rfl, rfl⟩
theorem c_l6Handle {v : Value} {a : List Int} (ha : a.length ≤ M63) {i : Int} (hi : 0 ≤ i) (h : Int) :
    ∃ x i' h', x.ok ∧ 0 ≤ i' ∧ CallD Try.prog F_spec_l6Handle [Cur v a i h] fun r bs => r = handleS x ∧ bs.getD 0 .dead = Cur v a i' h' := by
  obtain ⟨x, i1, h1, g1, k1, c1⟩ := c_l1Below (v := v) ha hi h 5
  obtain ⟨y, i2, h2, g2, k2, c2⟩ := c_l1Below (v := v) ha k1 h1 3
  refine ⟨⟨x, IntKind.i64.wrap (1 + y)⟩, i2, h2, ⟨below_I64 g1 (by unfold I64; omega), wrap_I64 _⟩, k2, k_spec_l6Handle ?_⟩
  unfold vc_spec_l6Handle
  exact ⟨_, _, _, rfl, c1, _, _, _, rfl, c2, rfl, rfl⟩
theorem c_l6Any {v : Value} {a : List Int} (ha : a.length ≤ M63) {i : Int} (hi : 0 ≤ i) (h : Int) :
    ∃ x i' h', x.ok ∧ 0 ≤ i' ∧ CallD Try.prog F_spec_l6Any [Cur v a i h] fun r bs => r = handleS x ∧ bs.getD 0 .dead = Cur v a i' h' := by
  obtain ⟨x, i1, h1, g1, k1, c1⟩ := c_l6Handle (v := v) ha hi h
  obtain ⟨y, i2, h2, -, k2, c2⟩ := c_l1Below (v := v) ha k1 h1 8
  by_cases e0 : y = 0
  · obtain ⟨z, i3, h3, g3, k3, c3⟩ := c_l1Int (v := v) ha k2 h2 (l := [-1, 1000000000, 9]) (by decide)
    refine ⟨⟨z, x.gen⟩, i3, h3, ⟨?_, g1.2⟩, k3, k_spec_l6Any ?_⟩
    · simp only [List.mem_cons, List.not_mem_nil, or_false] at g3
      unfold I64; simp only; omega
    · unfold vc_spec_l6Any
      exact ⟨_, _, _, _, rfl, c1, _, _, _, rfl, c2, fun _ => ⟨_, _, _, rfl, c3, rfl, rfl⟩, fun g => absurd e0 (of_decide_eq_false g)⟩
  by_cases e1 : y = 1
  · obtain ⟨z, i3, h3, g3, k3, c3⟩ := c_l1Int (v := v) ha k2 h2 (l := [0, -1, 5]) (by decide)
    refine ⟨⟨x.slot, z⟩, i3, h3, ⟨g1.1, ?_⟩, k3, k_spec_l6Any ?_⟩
    · simp only [List.mem_cons, List.not_mem_nil, or_false] at g3
      unfold I64; simp only; omega
    · unfold vc_spec_l6Any
      exact ⟨_, _, _, _, rfl, c1, _, _, _, rfl, c2, fun g => absurd (of_decide_eq_true g) e0, fun _ => ⟨fun _ => ⟨_, _, _, rfl, c3, rfl, rfl⟩, fun g => absurd e1 (of_decide_eq_false g)⟩⟩
  · refine ⟨x, i2, h2, g1, k2, k_spec_l6Any ?_⟩
    unfold vc_spec_l6Any
    exact ⟨_, _, _, _, rfl, c1, _, _, _, rfl, c2, fun g => absurd (of_decide_eq_true g) e0, fun _ => ⟨fun g => absurd (of_decide_eq_true g) e1, fun _ => ⟨rfl, rfl⟩⟩⟩
theorem c_l6Ref {v : Value} {a : List Int} (ha : a.length ≤ M63) {i : Int} (hi : 0 ≤ i) (h : Int) :
    ∃ x i' h', x.ok ∧ 0 ≤ i' ∧ CallD Try.prog F_spec_l6Ref [Cur v a i h] fun r bs => r = refS x ∧ bs.getD 0 .dead = Cur v a i' h' := by
  obtain ⟨x, i1, h1, g1, k1, c1⟩ := c_l6Any (v := v) ha hi h
  obtain ⟨y, i2, h2, g2, k2, c2⟩ := c_l1Int (v := v) ha k1 h1 (l := [0, 0, 0, 1, 2, -1]) (by decide)
  obtain ⟨z, i3, h3, g3, k3, c3⟩ := c_l1Int (v := v) ha k2 h2 (l := [0, 0, 1, 2, 5, -1]) (by decide)
  refine ⟨⟨x, y, z⟩, i3, h3, ⟨g1, ?_, ?_⟩, k3, k_spec_l6Ref ?_⟩
  · simp only [List.mem_cons, List.not_mem_nil, or_false] at g2
    unfold I64; simp only; omega
  · simp only [List.mem_cons, List.not_mem_nil, or_false] at g3
    unfold I64; simp only; omega
  · unfold vc_spec_l6Ref
    exact ⟨_, _, _, _, rfl, c1, _, _, _, rfl, c2, _, _, _, rfl, c3, rfl, rfl⟩
abbrev tBT (l : List Int) (t : Thing) : SV := .tup [.cell (.own (.sl 1 (byts l))), .agg [iC t.pos, iC t.len, iC t.run]]
theorem c_l11Pair {v : Value} {a : List Int} (ha : a.length ≤ M63) {i : Int} (hi : 0 ≤ i) (h : Int) :
    ∃ l t i' h', (l.length = 40 ∧ t.ok) ∧ 0 ≤ i' ∧ CallD Try.prog F_spec_l11Pair [Cur v a i h] fun r bs => r = tBT l t ∧ bs.getD 0 .dead = Cur v a i' h' := by
  obtain ⟨l, i1, h1, g1, k1, c1⟩ := c_l1Bytes (v := v) ha hi h (n := 40) (by omega)
  obtain ⟨x, i2, h2, g2, k2, c2⟩ := c_l1Below (v := v) ha k1 h1 30
  obtain ⟨y, i3, h3, g3, k3, c3⟩ := c_l1Below (v := v) ha k2 h2 9
  obtain ⟨b, i4, h4, k4, c4⟩ := c_l1Once (v := v) ha k3 h3 8
  have hz : I64 0 := by unfold I64; omega
  have hl : l.length = 40 := by have := g1.1; omega
  cases b with
  | true =>
    obtain ⟨z, i5, h5, g5, k5, c5⟩ := c_l1Int (v := v) ha k4 h4 (l := [-1, 35, 1000000000]) (by decide)
    refine ⟨l, ⟨z, IntKind.i64.wrap (1 + y), 0⟩, i5, h5, ⟨hl, ?_, wrap_I64 _, hz⟩, k5, k_spec_l11Pair ?_⟩
    · simp only [List.mem_cons, List.not_mem_nil, or_false] at g5
      unfold I64; simp only; omega
    · unfold vc_spec_l11Pair
      exact ⟨_, _, _, rfl, c1, _, _, _, rfl, c2, _, _, _, rfl, c3, _, _, _, rfl, c4, fun _ => ⟨_, _, _, rfl, c5, rfl, rfl⟩, fun g => by cases g⟩
  | false =>
    refine ⟨l, ⟨x, IntKind.i64.wrap (1 + y), 0⟩, i4, h4, ⟨hl, below_I64 g2 (by unfold I64; omega), wrap_I64 _, hz⟩, k4, k_spec_l11Pair ?_⟩
    unfold vc_spec_l11Pair
    exact ⟨_, _, _, rfl, c1, _, _, _, rfl, c2, _, _, _, rfl, c3, _, _, _, rfl, c4, (fun g => by cases g), fun _ => ⟨rfl, rfl⟩⟩
abbrev tBTIB (l : List Int) (t : Thing) (x : Int) (s : List Int) : SV := .tup [.cell (.own (.sl 1 (byts l))), .agg [iC t.pos, iC t.len, iC t.run], .cell (iC x), .cell (.own (.sl 1 (byts s)))]
abbrev tBTII (l : List Int) (t : Thing) (x y : Int) : SV := .tup [.cell (.own (.sl 1 (byts l))), .agg [iC t.pos, iC t.len, iC t.run], .cell (iC x), .cell (iC y)]
theorem c_DrawWriteThing {v : Value} {a : List Int} (ha : a.length ≤ M63) : ∃ l t x s, (l.length = 40 ∧ t.ok ∧ I64 x ∧ s.length ≤ 5) ∧ CallD Try.prog F_spec_DrawWriteThing [codeS v a] fun r _ => r = tBTIB l t x s := by
  obtain ⟨i0, h0, k0, c0⟩ := c_l1New (v := v) ha
  obtain ⟨l, t, i1, h1, g1, k1, c1⟩ := c_l11Pair (v := v) ha k0 h0
  obtain ⟨x, i2, h2, g2, k2, c2⟩ := c_l2Spot (v := v) ha k1 h1 6
  obtain ⟨y, i3, h3, g3, k3, c3⟩ := c_l1Below (v := v) ha k2 h2 5
  obtain ⟨s, i4, h4, g4, k4, c4⟩ := c_l1Bytes (v := v) ha k3 h3 (n := y) (by have := g3.2.1 (by omega); omega)
  refine ⟨l, t, x, s, ⟨g1.1, g1.2, g2, by have := g3.2.1 (by omega); omega⟩, k_spec_DrawWriteThing ?_⟩
  unfold vc_spec_DrawWriteThing
  exact ⟨_, _, rfl, c0, _, _, _, _, _, _, rfl, c1, _, _, _, rfl, c2, _, _, _, rfl, c3, _, _, _, rfl, c4, rfl⟩
theorem c_DrawReadThing {v : Value} {a : List Int} (ha : a.length ≤ M63) : ∃ l t x y, (l.length = 40 ∧ t.ok ∧ I64 x ∧ I64 y) ∧ CallD Try.prog F_spec_DrawReadThing [codeS v a] fun r _ => r = tBTII l t x y := by
  obtain ⟨i0, h0, k0, c0⟩ := c_l1New (v := v) ha
  obtain ⟨l, t, i1, h1, g1, k1, c1⟩ := c_l11Pair (v := v) ha k0 h0
  obtain ⟨x, i2, h2, g2, k2, c2⟩ := c_l2Spot (v := v) ha k1 h1 6
  obtain ⟨y, i3, h3, g3, k3, c3⟩ := c_l2Spot (v := v) ha k2 h2 5
  refine ⟨l, t, x, y, ⟨g1.1, g1.2, g2, g3⟩, k_spec_DrawReadThing ?_⟩
  unfold vc_spec_DrawReadThing
  exact ⟨_, _, rfl, c0, _, _, _, _, _, _, rfl, c1, _, _, _, rfl, c2, _, _, _, rfl, c3, rfl⟩
abbrev tNR (n : Node) (r : Ref) : SV := .tup [.agg [iC n.st, iC n.gen, iC n.ep, iC n.up, iC n.upEp, iC n.first, iC n.next, iC n.prev, .own (.sl 1 (ints n.chunks)), iC n.cur, iC n.bump, .own (.sl 3 (thgs n.things)), .own (.sl 1 (ints n.tags))], .agg [iC r.h.slot, iC r.h.gen, iC r.ep, iC r.no]]
theorem c_DrawThingOf {v : Value} {a : List Int} (ha : a.length ≤ M63) : ∃ n x, NodeG 103 n ∧ CallD Try.prog F_spec_DrawThingOf [codeS v a] fun r _ => r = tNR n x := by
  obtain ⟨i0, h0, k0, c0⟩ := c_l1New (v := v) ha
  obtain ⟨c, i1, h1, gc, k1, c1⟩ := c_l3Conf (v := v) ha k0 h0
  obtain ⟨n, i2, h2, hn, k2, c2⟩ := c_l10Any (v := v) ha k1 h1 (c := c) (by have := gc.size; omega)
  obtain ⟨x, i3, h3, -, k3, c3⟩ := c_l6Ref (v := v) ha k2 h2
  obtain ⟨b, i4, h4, -, c4⟩ := c_l1Once (v := v) ha k3 h3 2
  cases b with
  | true =>
    refine ⟨n, ⟨x.h, n.ep, x.no⟩, hn, k_spec_DrawThingOf ?_⟩
    unfold vc_spec_DrawThingOf
    exact ⟨_, _, rfl, c0, _, _, _, _, _, _, _, _, rfl, c1, _, _, _, _, _, _, _, _, _, _, _, _, _, _, _, rfl, c2, _, _, _, _, _, _, rfl, c3, _, _, _, rfl, c4, fun _ => rfl, fun g => by cases g⟩
  | false =>
    refine ⟨n, x, hn, k_spec_DrawThingOf ?_⟩
    unfold vc_spec_DrawThingOf
    exact ⟨_, _, rfl, c0, _, _, _, _, _, _, _, _, rfl, c1, _, _, _, _, _, _, _, _, _, _, _, _, _, _, _, rfl, c2, _, _, _, _, _, _, rfl, c3, _, _, _, rfl, c4, (fun g => by cases g), fun _ => rfl⟩
end Go.Proofs.Ythmpdfmdhfgaaaa
