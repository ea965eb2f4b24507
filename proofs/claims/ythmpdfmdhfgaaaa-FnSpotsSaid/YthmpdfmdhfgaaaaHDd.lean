/- Contracts of small functions: rooms drawn that hold things. -/
import Derived.Test.YthmpdfmdhfgaaaaHDc
import Derived.Test.YthmpdfmdhfgaaaaVHDd
namespace Go.Proofs.Ythmpdfmdhfgaaaa
open Go Go.Proofs.Ythmpdfmdhfgaaaa.DL
set_option maxRecDepth 100000

set_option maxHeartbeats 8000000 in
theorem c_l10Draw {v : Value} {a : List Int} (ha : a.length ≤ M63) {i : Int} (hi : 0 ≤ i) (h : Int) {c : Conf} (hc : 0 ≤ c.size ∧ c.size ≤ 100) :
    ∃ n i' h', NodeG 103 n ∧ 0 ≤ i' ∧ CallD Try.prog F_spec_l10Draw [Cur v a i h, confS c] fun r bs => r = oNode n ∧ bs.getD 0 .dead = Cur v a i' h' := by
  obtain ⟨f, hf⟩ := dB (v := v) ha
  obtain ⟨g, hg⟩ := dI (v := v) (l := [1, 2, 4]) ha (by decide)
  obtain ⟨g1, k1, c1⟩ := hf (i, h) c.gens hi
  generalize f (i, h) c.gens = p1 at *
  obtain ⟨g2, k2, c2⟩ := hf p1.2 2 k1
  generalize f p1.2 2 = p2 at *
  obtain ⟨g3, k3, c3⟩ := hf p2.2 2 k2
  generalize f p2.2 2 = p3 at *
  have hz0 : I64 0 := by unfold I64; omega
  have hn0 : NodeG 100 ⟨1, IntKind.i64.wrap (1 + p1.1), p2.1, 0, 0, 0, 0, 0, [], 0, 0, [], []⟩ := by
    refine ⟨⟨by unfold I64; simp only; omega, wrap_I64 _, ?_, hz0, hz0, hz0, hz0, hz0, ⟨by simp, fun x hx => by cases hx⟩, hz0, hz0, ⟨by simp, fun x hx => by cases hx⟩, ⟨by simp, fun x hx => by cases hx⟩⟩, by simp [Node.sz]⟩
    have := g2.2.1 (by omega); show I64 p2.1; unfold I64; omega
  have hp3 : I64 p3.1 := by have := g3.2.1 (by omega); unfold I64; omega
  have cN := c_NewCurS c hn0.ok (by have := hn0.sz; omega) hp3
  have hn1 := curN_G (c := c) hn0 hp3
  generalize curN c ⟨1, IntKind.i64.wrap (1 + p1.1), p2.1, 0, 0, 0, 0, 0, [], 0, 0, [], []⟩ p3.1 = nd at *
  generalize curB c ⟨1, IntKind.i64.wrap (1 + p1.1), p2.1, 0, 0, 0, 0, 0, [], 0, 0, [], []⟩ p3.1 = b1 at *
  obtain ⟨g4, k4, c4⟩ := hf p3.2 4 k3
  generalize f p3.2 4 = p4 at *
  obtain ⟨N, hN⟩ := Int.eq_ofNat_of_zero_le g4.1
  have hN4 : N < 4 := by have := g4.2.1 (by omega); omega
  obtain ⟨T, t0, ts⟩ := iter_ex (fun s : (Int × Int) × Node => ((g (f s.1 5).2).2, putS c s.2 (IntKind.i64.wrap (1 + (f s.1 5).1)) (g (f s.1 5).2).1)) (p4.2, nd)
  have ti : ∀ q, 0 ≤ (T q).1.1 ∧ NodeG 100 (T q).2 := fun q => by
    induction q with
    | zero => rw [t0]; exact ⟨k4, hn1⟩
    | succ q ih =>
      obtain ⟨e1, e2⟩ := ih
      obtain ⟨-, e3, -⟩ := hf (T q).1 5 e1
      obtain ⟨-, e4, -⟩ := hg (f (T q).1 5).2 e3
      rw [ts]
      exact ⟨e4, putS_G e2 (wrap_I64 _)⟩
  obtain ⟨q1, q2⟩ := ti N
  obtain ⟨b, i6, h6, k6, c6⟩ := c_l1Once (v := v) ha q1 (T N).1.2 3
  cases b with
  | true =>
    have cL := c_PutLargeS c q2.ok (by have := q2.sz; omega) 2 (sz := IntKind.i64.wrap (c.size + 1)) (wrap_I64 _)
    have hn3 := largeN_G (c := c) (k := 2) q2 (sz := IntKind.i64.wrap (c.size + 1)) (wrap_I64 _) (by rw [wrap_id (by omega) (by omega)]; omega)
    generalize largeN c (T N).2 2 (IntKind.i64.wrap (c.size + 1)) = nL at *
    generalize largeB c (T N).2 2 (IntKind.i64.wrap (c.size + 1)) = b3 at *
    obtain ⟨g7, k7, c7⟩ := hf (i6, h6) 3 k6
    generalize f (i6, h6) 3 = p7 at *
    obtain ⟨L, hL⟩ := Int.eq_ofNat_of_zero_le g7.1
    have hL3 : L < 3 := by have := g7.2.1 (by omega); omega
    obtain ⟨⟨o1, o2, o3, o4, o5, o6, o7, o8, o9, o10, o11, o12, ⟨o13, p13⟩⟩, hsz⟩ := hn3
    have hsz' := hsz
    unfold Node.sz at hsz'
    obtain ⟨U, u0, us, ui⟩ := tags_iter hf k7 (l0 := nL.tags) ⟨by omega, p13⟩
    obtain ⟨r1, r2, r3⟩ := ui L
    refine ⟨⟨nL.st, nL.gen, nL.ep, nL.up, nL.upEp, nL.first, nL.next, nL.prev, nL.chunks, nL.cur, nL.bump, nL.things, (U L).2⟩, (U L).1.1, (U L).1.2, ⟨⟨o1, o2, o3, o4, o5, o6, o7, o8, o9, o10, o11, o12, ⟨by rw [r2]; unfold M63; omega, r3⟩⟩, by simp only [Node.sz, r2]; omega⟩, r1, k_spec_l10Draw ?_⟩
    unfold vc_spec_l10Draw
    refine ⟨_, _, _, rfl, c1, _, _, _, _, _, _, _, _, _, _, _, _, _, c_NodeNewS _, _, _, _, rfl, c2, _, _, _, rfl, c3, _, _, _, _, _, _, _, _, _, _, _, _, _, _, cN, fun _ => ?_, fun _ => ?_⟩
    all_goals
      refine ⟨_, _, _, rfl, c4, fun i1 i2 n0 n1 n2 n3 n4 n5 n6 n7 es n8 n9 et eg j m => ∃ q : Nat, q ≤ N ∧ j = N - q ∧ m = N - q ∧ i1 = (T q).1.1 ∧ i2 = (T q).1.2 ∧ n0 = (T q).2.st ∧ n1 = (T q).2.gen ∧ n2 = (T q).2.ep ∧ n3 = (T q).2.up ∧ n4 = (T q).2.upEp ∧ n5 = (T q).2.first ∧ n6 = (T q).2.next ∧ n7 = (T q).2.prev ∧ es = ints (T q).2.chunks ∧ n8 = (T q).2.cur ∧ n9 = (T q).2.bump ∧ et = thgs (T q).2.things ∧ eg = ints (T q).2.tags,
        ⟨N, by trivial, by trivial, 0, Nat.zero_le _, by rw [hN]; omega, rfl, by rw [t0], by rw [t0], by rw [t0], by rw [t0], by rw [t0], by rw [t0], by rw [t0], by rw [t0], by rw [t0], by rw [t0], by rw [t0], by rw [t0], by rw [t0], by rw [t0], by rw [t0]⟩, ?_⟩
      rintro i1 i2 n0 n1 n2 n3 n4 n5 n6 n7 es n8 n9 et eg j m ⟨-, -, q, hq, rfl, rfl, rfl, rfl, rfl, rfl, rfl, rfl, rfl, rfl, rfl, rfl, rfl, rfl, rfl, rfl, rfl⟩
      obtain ⟨s1, s2⟩ := ti q
      refine ⟨fun g' => ?_, fun g' => ?_⟩
      · have g2' : (0 : Int) < (N : Int) - q := of_decide_eq_true g'
        obtain ⟨w1, w2, w3⟩ := hf (T q).1 5 s1
        obtain ⟨v1, v2, v3⟩ := hg (f (T q).1 5).2 w2
        have cP := c_PutSmallS c s2.ok (by have := s2.sz; omega) (IntKind.i64.wrap (1 + (f (T q).1 5).1)) (g (f (T q).1 5).2).1
        refine ⟨_, _, _, rfl, w3, _, _, _, rfl, v3, _, _, _, _, _, _, _, _, _, _, _, _, _, _, cP, fun _ => ⟨⟨rfl, rfl⟩, N - (q + 1), by omega, rfl, rfl, q + 1, by omega, by rw [wrap_id (by omega) (by omega)]; omega, rfl, by rw [ts], by rw [ts], by rw [ts], by rw [ts], by rw [ts], by rw [ts], by rw [ts], by rw [ts], by rw [ts], by rw [ts], by rw [ts], by rw [ts], by rw [ts], by rw [ts], by rw [ts]⟩, fun _ => ⟨⟨rfl, rfl⟩, N - (q + 1), by omega, rfl, rfl, q + 1, by omega, by rw [wrap_id (by omega) (by omega)]; omega, rfl, by rw [ts], by rw [ts], by rw [ts], by rw [ts], by rw [ts], by rw [ts], by rw [ts], by rw [ts], by rw [ts], by rw [ts], by rw [ts], by rw [ts], by rw [ts], by rw [ts], by rw [ts]⟩⟩
      have hqN : q = N := by have := of_decide_eq_false g'; omega
      subst hqN
      refine ⟨_, _, _, rfl, c6, fun _ => ⟨_, _, _, _, _, _, _, _, _, _, _, _, _, _, cL, fun _ => ?_, fun _ => ?_⟩, fun g' => by cases g'⟩
      all_goals
        refine ⟨_, _, _, rfl, c7, fun i1 i2 n0 n1 n2 n3 n4 n5 n6 n7 es n8 n9 et eg j m => ∃ y : Nat, y ≤ L ∧ j = L - y ∧ m = L - y ∧ i1 = (U y).1.1 ∧ i2 = (U y).1.2 ∧ n0 = nL.st ∧ n1 = nL.gen ∧ n2 = nL.ep ∧ n3 = nL.up ∧ n4 = nL.upEp ∧ n5 = nL.first ∧ n6 = nL.next ∧ n7 = nL.prev ∧ es = ints nL.chunks ∧ n8 = nL.cur ∧ n9 = nL.bump ∧ et = thgs nL.things ∧ eg = ints (U y).2,
          ⟨L, by trivial, by trivial, 0, Nat.zero_le _, by rw [hL]; omega, rfl, by rw [u0], by rw [u0], rfl, rfl, rfl, rfl, rfl, rfl, rfl, rfl, rfl, rfl, rfl, rfl, by rw [u0]⟩, ?_⟩
        rintro i1 i2 n0 n1 n2 n3 n4 n5 n6 n7 es n8 n9 et eg j m ⟨-, -, y, hy, rfl, rfl, rfl, rfl, rfl, rfl, rfl, rfl, rfl, rfl, rfl, rfl, rfl, rfl, rfl, rfl, rfl⟩
        obtain ⟨z1, z2, z3⟩ := ui y
        refine ⟨fun g' => ?_, fun g' => ?_⟩
        · have g2' : (0 : Int) < (L : Int) - y := of_decide_eq_true g'
          obtain ⟨w1, w2, w3⟩ := hf (U y).1 256 z1
          refine ⟨_, _, _, rfl, w3, ?_⟩
          simp only [n_ints, z2, n_one1]
          refine ⟨by omega, by omega, by trivial, L - (y + 1), by omega, by trivial, by trivial, y + 1, by omega, by rw [wrap_id (by omega) (by omega)]; omega, by trivial, by rw [us], by rw [us], by trivial, by trivial, by trivial, by trivial, by trivial, by trivial, by trivial, by trivial, by trivial, by trivial, by trivial, by trivial, ?_⟩
          rw [us, ints_snoc]
        have hyL : y = L := by have := of_decide_eq_false g'; omega
        subst hyL
        exact ⟨rfl, rfl⟩
  | false =>
    have hn3 := q2
    obtain ⟨g7, k7, c7⟩ := hf (i6, h6) 3 k6
    generalize f (i6, h6) 3 = p7 at *
    obtain ⟨L, hL⟩ := Int.eq_ofNat_of_zero_le g7.1
    have hL3 : L < 3 := by have := g7.2.1 (by omega); omega
    obtain ⟨⟨o1, o2, o3, o4, o5, o6, o7, o8, o9, o10, o11, o12, ⟨o13, p13⟩⟩, hsz⟩ := hn3
    have hsz' := hsz
    unfold Node.sz at hsz'
    obtain ⟨U, u0, us, ui⟩ := tags_iter hf k7 (l0 := (T N).2.tags) ⟨by omega, p13⟩
    obtain ⟨r1, r2, r3⟩ := ui L
    refine ⟨⟨(T N).2.st, (T N).2.gen, (T N).2.ep, (T N).2.up, (T N).2.upEp, (T N).2.first, (T N).2.next, (T N).2.prev, (T N).2.chunks, (T N).2.cur, (T N).2.bump, (T N).2.things, (U L).2⟩, (U L).1.1, (U L).1.2, ⟨⟨o1, o2, o3, o4, o5, o6, o7, o8, o9, o10, o11, o12, ⟨by rw [r2]; unfold M63; omega, r3⟩⟩, by simp only [Node.sz, r2]; omega⟩, r1, k_spec_l10Draw ?_⟩
    unfold vc_spec_l10Draw
    refine ⟨_, _, _, rfl, c1, _, _, _, _, _, _, _, _, _, _, _, _, _, c_NodeNewS _, _, _, _, rfl, c2, _, _, _, rfl, c3, _, _, _, _, _, _, _, _, _, _, _, _, _, _, cN, fun _ => ?_, fun _ => ?_⟩
    all_goals
      refine ⟨_, _, _, rfl, c4, fun i1 i2 n0 n1 n2 n3 n4 n5 n6 n7 es n8 n9 et eg j m => ∃ q : Nat, q ≤ N ∧ j = N - q ∧ m = N - q ∧ i1 = (T q).1.1 ∧ i2 = (T q).1.2 ∧ n0 = (T q).2.st ∧ n1 = (T q).2.gen ∧ n2 = (T q).2.ep ∧ n3 = (T q).2.up ∧ n4 = (T q).2.upEp ∧ n5 = (T q).2.first ∧ n6 = (T q).2.next ∧ n7 = (T q).2.prev ∧ es = ints (T q).2.chunks ∧ n8 = (T q).2.cur ∧ n9 = (T q).2.bump ∧ et = thgs (T q).2.things ∧ eg = ints (T q).2.tags,
        ⟨N, by trivial, by trivial, 0, Nat.zero_le _, by rw [hN]; omega, rfl, by rw [t0], by rw [t0], by rw [t0], by rw [t0], by rw [t0], by rw [t0], by rw [t0], by rw [t0], by rw [t0], by rw [t0], by rw [t0], by rw [t0], by rw [t0], by rw [t0], by rw [t0]⟩, ?_⟩
      rintro i1 i2 n0 n1 n2 n3 n4 n5 n6 n7 es n8 n9 et eg j m ⟨-, -, q, hq, rfl, rfl, rfl, rfl, rfl, rfl, rfl, rfl, rfl, rfl, rfl, rfl, rfl, rfl, rfl, rfl, rfl⟩
      obtain ⟨s1, s2⟩ := ti q
      refine ⟨fun g' => ?_, fun g' => ?_⟩
      · have g2' : (0 : Int) < (N : Int) - q := of_decide_eq_true g'
        obtain ⟨w1, w2, w3⟩ := hf (T q).1 5 s1
        obtain ⟨v1, v2, v3⟩ := hg (f (T q).1 5).2 w2
        have cP := c_PutSmallS c s2.ok (by have := s2.sz; omega) (IntKind.i64.wrap (1 + (f (T q).1 5).1)) (g (f (T q).1 5).2).1
        refine ⟨_, _, _, rfl, w3, _, _, _, rfl, v3, _, _, _, _, _, _, _, _, _, _, _, _, _, _, cP, fun _ => ⟨⟨rfl, rfl⟩, N - (q + 1), by omega, rfl, rfl, q + 1, by omega, by rw [wrap_id (by omega) (by omega)]; omega, rfl, by rw [ts], by rw [ts], by rw [ts], by rw [ts], by rw [ts], by rw [ts], by rw [ts], by rw [ts], by rw [ts], by rw [ts], by rw [ts], by rw [ts], by rw [ts], by rw [ts], by rw [ts]⟩, fun _ => ⟨⟨rfl, rfl⟩, N - (q + 1), by omega, rfl, rfl, q + 1, by omega, by rw [wrap_id (by omega) (by omega)]; omega, rfl, by rw [ts], by rw [ts], by rw [ts], by rw [ts], by rw [ts], by rw [ts], by rw [ts], by rw [ts], by rw [ts], by rw [ts], by rw [ts], by rw [ts], by rw [ts], by rw [ts], by rw [ts]⟩⟩
      have hqN : q = N := by have := of_decide_eq_false g'; omega
      subst hqN
      refine ⟨_, _, _, rfl, c6, (fun g' => by cases g'), fun _ => ?_⟩
      refine ⟨_, _, _, rfl, c7, fun i1 i2 n0 n1 n2 n3 n4 n5 n6 n7 es n8 n9 et eg j m => ∃ y : Nat, y ≤ L ∧ j = L - y ∧ m = L - y ∧ i1 = (U y).1.1 ∧ i2 = (U y).1.2 ∧ n0 = (T q).2.st ∧ n1 = (T q).2.gen ∧ n2 = (T q).2.ep ∧ n3 = (T q).2.up ∧ n4 = (T q).2.upEp ∧ n5 = (T q).2.first ∧ n6 = (T q).2.next ∧ n7 = (T q).2.prev ∧ es = ints (T q).2.chunks ∧ n8 = (T q).2.cur ∧ n9 = (T q).2.bump ∧ et = thgs (T q).2.things ∧ eg = ints (U y).2,
        ⟨L, by trivial, by trivial, 0, Nat.zero_le _, by rw [hL]; omega, rfl, by rw [u0], by rw [u0], rfl, rfl, rfl, rfl, rfl, rfl, rfl, rfl, rfl, rfl, rfl, rfl, by rw [u0]⟩, ?_⟩
      rintro i1 i2 n0 n1 n2 n3 n4 n5 n6 n7 es n8 n9 et eg j m ⟨-, -, y, hy, rfl, rfl, rfl, rfl, rfl, rfl, rfl, rfl, rfl, rfl, rfl, rfl, rfl, rfl, rfl, rfl, rfl⟩
      obtain ⟨z1, z2, z3⟩ := ui y
      refine ⟨fun g' => ?_, fun g' => ?_⟩
      · have g2' : (0 : Int) < (L : Int) - y := of_decide_eq_true g'
        obtain ⟨w1, w2, w3⟩ := hf (U y).1 256 z1
        refine ⟨_, _, _, rfl, w3, ?_⟩
        simp only [n_ints, z2, n_one1]
        refine ⟨by omega, by omega, by trivial, L - (y + 1), by omega, by trivial, by trivial, y + 1, by omega, by rw [wrap_id (by omega) (by omega)]; omega, by trivial, by rw [us], by rw [us], by trivial, by trivial, by trivial, by trivial, by trivial, by trivial, by trivial, by trivial, by trivial, by trivial, by trivial, by trivial, ?_⟩
        rw [us, ints_snoc]
      have hyL : y = L := by have := of_decide_eq_false g'; omega
      subst hyL
      exact ⟨rfl, rfl⟩
theorem c_l10Any {v : Value} {a : List Int} (ha : a.length ≤ M63) {i : Int} (hi : 0 ≤ i) (h : Int) {c : Conf} (hc : 0 ≤ c.size ∧ c.size ≤ 100) :
    ∃ n i' h', NodeG 103 n ∧ 0 ≤ i' ∧ CallD Try.prog F_spec_l10Any [Cur v a i h, confS c] fun r bs => r = oNode n ∧ bs.getD 0 .dead = Cur v a i' h' := by
  obtain ⟨b, i1, h1, k1, c1⟩ := c_l1Once (v := v) ha hi h 4
  cases b with
  | true =>
    obtain ⟨n, i2, h2, hn, k2, c2⟩ := c_l7Any (v := v) ha k1 h1 c
    refine ⟨n, i2, h2, ⟨hn.ok, by have := hn.sz; omega⟩, k2, k_spec_l10Any ?_⟩
    unfold vc_spec_l10Any
    exact ⟨_, _, _, rfl, c1, fun _ => ⟨_, _, _, _, _, _, _, _, _, _, _, _, _, _, _, rfl, c2, rfl, rfl⟩, fun g => by cases g⟩
  | false =>
    obtain ⟨n, i2, h2, hn, k2, c2⟩ := c_l10Draw (v := v) ha k1 h1 hc
    refine ⟨n, i2, h2, hn, k2, k_spec_l10Any ?_⟩
    unfold vc_spec_l10Any
    exact ⟨_, _, _, rfl, c1, (fun g => by cases g), fun _ => ⟨_, _, _, _, _, _, _, _, _, _, _, _, _, _, _, rfl, c2, rfl, rfl⟩⟩
end Go.Proofs.Ythmpdfmdhfgaaaa
