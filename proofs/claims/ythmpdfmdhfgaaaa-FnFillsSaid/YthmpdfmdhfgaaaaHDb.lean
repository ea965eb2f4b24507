/- Contracts of small functions: rooms drawn. -/
import Derived.Test.YthmpdfmdhfgaaaaHDa
import Derived.Test.YthmpdfmdhfgaaaaVHDb
namespace Go.Proofs.Ythmpdfmdhfgaaaa
open Go Go.Proofs.Ythmpdfmdhfgaaaa.DL
set_option maxRecDepth 100000

theorem iter_ex {S : Type} (step : S → S) (s0 : S) : ∃ T : Nat → S, T 0 = s0 ∧ ∀ k, T (k + 1) = step (T k) :=
  ⟨fun k => (List.range k).foldl (fun s _ => step s) s0, rfl, fun k => by simp [List.range_succ]⟩
/-- What l1Below gives, as a function of the cursor. -/
theorem dB {v : Value} {a : List Int} (ha : a.length ≤ M63) : ∃ f : Int × Int → Int → Int × (Int × Int), ∀ k n, 0 ≤ k.1 → (0 ≤ (f k n).1 ∧ (0 < n → (f k n).1 < n) ∧ (n ≤ 0 → (f k n).1 = 0)) ∧ 0 ≤ (f k n).2.1 ∧
    CallD Try.prog F_spec_l1Below [Cur v a k.1 k.2, iS n] fun r bs => r = iS (f k n).1 ∧ bs.getD 0 .dead = Cur v a (f k n).2.1 (f k n).2.2 := by
  have h : ∀ q : (Int × Int) × Int, ∃ p : Int × (Int × Int), 0 ≤ q.1.1 → (0 ≤ p.1 ∧ (0 < q.2 → p.1 < q.2) ∧ (q.2 ≤ 0 → p.1 = 0)) ∧ 0 ≤ p.2.1 ∧
      CallD Try.prog F_spec_l1Below [Cur v a q.1.1 q.1.2, iS q.2] fun r bs => r = iS p.1 ∧ bs.getD 0 .dead = Cur v a p.2.1 p.2.2 := fun q => by
    by_cases hq : 0 ≤ q.1.1
    · obtain ⟨x, i, h, h1, h2, h3⟩ := c_l1Below (v := v) ha hq q.1.2 q.2
      exact ⟨(x, (i, h)), fun _ => ⟨h1, h2, h3⟩⟩
    · exact ⟨(0, (0, 0)), fun g => absurd g hq⟩
  obtain ⟨f, hf⟩ := Classical.skolem.1 h
  exact ⟨fun k n => f (k, n), fun k n hk => hf (k, n) hk⟩
theorem c_l7Thing {v : Value} {a : List Int} (ha : a.length ≤ M63) {i : Int} (hi : 0 ≤ i) (h : Int) (c : Conf) :
    ∃ t i' h', t.ok ∧ 0 ≤ i' ∧ CallD Try.prog F_spec_l7Thing [Cur v a i h, confS c] fun r bs => r = thingS t ∧ bs.getD 0 .dead = Cur v a i' h' := by
  obtain ⟨b, i1, h1, k1, c1⟩ := c_l1Once (v := v) ha hi h 4
  by_cases hb : b = true ∧ 2 < c.chunks
  · obtain ⟨rfl, hb⟩ := hb
    obtain ⟨x2, i2, h2, g2, k2, c2⟩ := c_l1Below (v := v) ha k1 h1 (IntKind.i64.wrap (c.chunks - 1))
    obtain ⟨x3, i3, h3, g3, k3, c3⟩ := c_l1Below (v := v) ha k2 h2 c.size
    refine ⟨⟨IntKind.i64.wrap (c.size * x2), IntKind.i64.wrap (IntKind.i64.wrap (c.size + 1) + x3), 2⟩, i3, h3, ⟨wrap_I64 _, wrap_I64 _, by show I64 2; unfold I64; omega⟩, k3, k_spec_l7Thing ?_⟩
    unfold vc_spec_l7Thing
    exact ⟨_, _, _, rfl, c1, fun _ => ⟨fun _ => ⟨_, _, _, rfl, c2, _, _, _, rfl, c3, rfl, rfl⟩, fun g => absurd hb (by simpa using g)⟩, fun g => by cases g⟩
  · obtain ⟨x2, i2, h2, g2, k2, c2⟩ := c_l1Below (v := v) ha k1 h1 c.chunks
    obtain ⟨x3, i3, h3, g3, k3, c3⟩ := c_l1Below (v := v) ha k2 h2 c.size
    obtain ⟨x4, i4, h4, g4, k4, c4⟩ := c_l1Below (v := v) ha k3 h3 (IntKind.i64.wrap (c.size - x3))
    refine ⟨⟨IntKind.i64.wrap (IntKind.i64.wrap (x2 * c.size) + x3), IntKind.i64.wrap (1 + x4), 0⟩, i4, h4, ⟨wrap_I64 _, wrap_I64 _, by show I64 0; unfold I64; omega⟩, k4, k_spec_l7Thing ?_⟩
    unfold vc_spec_l7Thing
    exact ⟨_, _, _, rfl, c1, fun g => ⟨fun g2 => absurd ⟨g, by simpa using g2⟩ hb, fun _ => ⟨_, _, _, rfl, c2, _, _, _, rfl, c3, _, _, _, rfl, c4, rfl, rfl⟩⟩, fun _ => ⟨_, _, _, rfl, c2, _, _, _, rfl, c3, _, _, _, rfl, c4, rfl, rfl⟩⟩
theorem dT {v : Value} {a : List Int} (ha : a.length ≤ M63) (c : Conf) : ∃ f : Int × Int → Thing × (Int × Int), ∀ k, 0 ≤ k.1 → (f k).1.ok ∧ 0 ≤ (f k).2.1 ∧
    CallD Try.prog F_spec_l7Thing [Cur v a k.1 k.2, confS c] fun r bs => r = thingS (f k).1 ∧ bs.getD 0 .dead = Cur v a (f k).2.1 (f k).2.2 := by
  have h : ∀ k : Int × Int, ∃ p : Thing × (Int × Int), 0 ≤ k.1 → p.1.ok ∧ 0 ≤ p.2.1 ∧ CallD Try.prog F_spec_l7Thing [Cur v a k.1 k.2, confS c] fun r bs => r = thingS p.1 ∧ bs.getD 0 .dead = Cur v a p.2.1 p.2.2 := fun k => by
    by_cases hk : 0 ≤ k.1
    · obtain ⟨t, i, h, h1, h2, h3⟩ := c_l7Thing (v := v) ha hk k.2 c
      exact ⟨(t, (i, h)), fun _ => ⟨h1, h2, h3⟩⟩
    · exact ⟨(⟨0, 0, 0⟩, (0, 0)), fun g => absurd g hk⟩
  exact Classical.skolem.1 h
/-- A room as it is drawn. -/
structure NodeG (m : Int) (n : Node) : Prop where
  ok : n.ok
  sz : n.sz ≤ m
def cnk (N k : Nat) : List Int := (List.range k).map fun j : Nat => (N : Int) - 1 - (j : Int)
theorem cnk_succ (N k : Nat) : cnk N (k + 1) = cnk N k ++ [(N : Int) - 1 - k] := by simp [cnk, List.range_succ]
theorem cnk_len (N k : Nat) : (cnk N k).length = k := by simp [cnk]
theorem n_one1 (d : DV) : (DV.sl 1 [d]).n = 1 := rfl
/-- The tags of a room that is drawn: as many as are still to come. -/
theorem tags_iter {v : Value} {a : List Int} {f : Int × Int → Int → Int × (Int × Int)} (hf : ∀ k n, 0 ≤ k.1 → (0 ≤ (f k n).1 ∧ (0 < n → (f k n).1 < n) ∧ (n ≤ 0 → (f k n).1 = 0)) ∧ 0 ≤ (f k n).2.1 ∧
    CallD Try.prog F_spec_l1Below [Cur v a k.1 k.2, iS n] fun r bs => r = iS (f k n).1 ∧ bs.getD 0 .dead = Cur v a (f k n).2.1 (f k n).2.2) {k0 : Int × Int} (hk0 : 0 ≤ k0.1) {l0 : List Int} (hl0 : l0.length ≤ 300 ∧ ∀ x ∈ l0, I64 x) :
    ∃ T : Nat → (Int × Int) × List Int, T 0 = (k0, l0) ∧ (∀ k, T (k + 1) = ((f (T k).1 256).2, (T k).2 ++ [(f (T k).1 256).1])) ∧ ∀ k, 0 ≤ (T k).1.1 ∧ (T k).2.length = l0.length + k ∧ ∀ x ∈ (T k).2, I64 x := by
  obtain ⟨T, e0, es⟩ := iter_ex (fun s : (Int × Int) × List Int => ((f s.1 256).2, s.2 ++ [(f s.1 256).1])) (k0, l0)
  refine ⟨T, e0, es, fun k => ?_⟩
  induction k with
  | zero => rw [e0]; exact ⟨hk0, rfl, hl0.2⟩
  | succ k ih =>
    obtain ⟨q1, q2, q3⟩ := ih
    obtain ⟨p1, p2, -⟩ := hf (T k).1 256 q1
    rw [es]
    refine ⟨p2, by simp [q2]; omega, fun x hx => ?_⟩
    rcases List.mem_append.1 hx with hx | hx
    · exact q3 x hx
    · rw [List.mem_singleton.1 hx]
      have := p1.2.1 (by omega)
      unfold I64; omega
theorem things_iter {v : Value} {a : List Int} {c : Conf} {f : Int × Int → Thing × (Int × Int)} (hf : ∀ k, 0 ≤ k.1 → (f k).1.ok ∧ 0 ≤ (f k).2.1 ∧
    CallD Try.prog F_spec_l7Thing [Cur v a k.1 k.2, confS c] fun r bs => r = thingS (f k).1 ∧ bs.getD 0 .dead = Cur v a (f k).2.1 (f k).2.2) {k0 : Int × Int} (hk0 : 0 ≤ k0.1) :
    ∃ T : Nat → (Int × Int) × List Thing, T 0 = (k0, []) ∧ (∀ k, T (k + 1) = ((f (T k).1).2, (T k).2 ++ [(f (T k).1).1])) ∧ ∀ k, 0 ≤ (T k).1.1 ∧ (T k).2.length = k ∧ ∀ x ∈ (T k).2, x.ok := by
  obtain ⟨T, e0, es⟩ := iter_ex (fun s : (Int × Int) × List Thing => ((f s.1).2, s.2 ++ [(f s.1).1])) (k0, [])
  refine ⟨T, e0, es, fun k => ?_⟩
  induction k with
  | zero => rw [e0]; exact ⟨hk0, rfl, fun x hx => by cases hx⟩
  | succ k ih =>
    obtain ⟨q1, q2, q3⟩ := ih
    obtain ⟨p1, p2, -⟩ := hf (T k).1 q1
    rw [es]
    refine ⟨p2, by simp [q2], fun x hx => ?_⟩
    rcases List.mem_append.1 hx with hx | hx
    · exact q3 x hx
    · rw [List.mem_singleton.1 hx]; exact p1
theorem thgs_snoc1 (l : List Thing) (t : Thing) : thgs l ++ [iV t.pos, iV t.len, iV t.run] = thgs (l ++ [t]) := flat_one Thing.enc l t
theorem n_one3' (a b c : DV) : (DV.sl 3 [a, b, c]).n = 1 := by rw [DV.n_eq]; simp
theorem n_cons0 (x : DV) (l : List DV) : (DV.sl 1 (x :: l)).getP [0] = x := rfl
set_option maxHeartbeats 4000000 in
theorem c_l7Draw {v : Value} {a : List Int} (ha : a.length ≤ M63) {i : Int} (hi : 0 ≤ i) (h : Int) (c : Conf) :
    ∃ n i' h', NodeG 100 n ∧ 0 ≤ i' ∧ CallD Try.prog F_spec_l7Draw [Cur v a i h, confS c] fun r bs => r = oNode n ∧ bs.getD 0 .dead = Cur v a i' h' := by
  obtain ⟨f, hf⟩ := dB (v := v) ha
  obtain ⟨ft, hft⟩ := dT (v := v) ha c
  obtain ⟨g1, k1, c1⟩ := hf (i, h) c.gens hi
  generalize f (i, h) c.gens = p1 at *
  obtain ⟨g2, k2, c2⟩ := hf p1.2 4 k1
  generalize f p1.2 4 = p2 at *
  by_cases hst : p2.1 = 1
  case neg =>
    refine ⟨⟨p2.1, IntKind.i64.wrap (1 + p1.1), 0, 0, 0, 0, 0, 0, [], 0, 0, [], []⟩, p2.2.1, p2.2.2, ?_, k2, k_spec_l7Draw ?_⟩
    · refine ⟨⟨?_, wrap_I64 _, ?_, ?_, ?_, ?_, ?_, ?_, ⟨by simp, fun x hx => by cases hx⟩, ?_, ?_, ⟨by simp, fun x hx => by cases hx⟩, ⟨by simp, fun x hx => by cases hx⟩⟩, by simp [Node.sz]⟩
      · have := g2.2.1 (by omega); show I64 p2.1; unfold I64; omega
      all_goals (show I64 0; unfold I64; omega)
    · unfold vc_spec_l7Draw
      exact ⟨_, _, _, rfl, c1, _, _, _, _, _, _, _, _, _, _, _, _, _, c_NodeNewS _, _, _, _, rfl, c2, fun _ => ⟨rfl, rfl⟩, fun g => absurd (by simpa using g) hst⟩
  obtain ⟨g3, k3, c3⟩ := hf p2.2 3 k2
  generalize f p2.2 3 = p3 at *
  obtain ⟨g4, k4, c4⟩ := hf p3.2 3 k3
  generalize f p3.2 3 = p4 at *
  obtain ⟨N, hN⟩ := Int.eq_ofNat_of_zero_le g4.1
  have hN3 : N < 3 := by have := g4.2.1 (by omega); omega
  by_cases hN0 : 0 < N
  · obtain ⟨g5, k5, c5⟩ := hf p4.2 (IntKind.i64.wrap (c.size + 1)) k4
    generalize f p4.2 (IntKind.i64.wrap (c.size + 1)) = p5 at *
    obtain ⟨g6, k6, c6⟩ := hf p5.2 3 k5
    generalize f p5.2 3 = p6 at *
    obtain ⟨M, hM⟩ := Int.eq_ofNat_of_zero_le g6.1
    have hM3 : M < 3 := by have := g6.2.1 (by omega); omega
    obtain ⟨T, t0, ts, ti⟩ := things_iter hft k6
    obtain ⟨q1, q2, q3⟩ := ti M
    obtain ⟨g7, k7, c7⟩ := hf (T M).1 3 q1
    generalize hp7 : f (T M).1 3 = p7 at *
    obtain ⟨L, hL⟩ := Int.eq_ofNat_of_zero_le g7.1
    have hL3 : L < 3 := by have := g7.2.1 (by omega); omega
    obtain ⟨U, u0, us, ui⟩ := tags_iter hf k7 (l0 := []) ⟨by simp, fun x hx => by cases hx⟩
    obtain ⟨r1, r2, r3⟩ := ui L
    have hz0 : I64 0 := by unfold I64; omega
    refine ⟨⟨1, IntKind.i64.wrap (1 + p1.1), p3.1, 0, 0, 0, 0, 0, cnk N N, IntKind.i64.wrap ((N : Int) - 1 + 1), p5.1, (T M).2, (U L).2⟩, (U L).1.1, (U L).1.2, ?_, r1, k_spec_l7Draw ?_⟩
    · refine ⟨⟨by unfold I64; simp only; omega, wrap_I64 _, ?_, hz0, hz0, hz0, hz0, hz0, ⟨by rw [cnk_len]; unfold M63; omega, fun x hx => ?_⟩, ?_, ?_, ⟨by rw [q2]; unfold M63; omega, q3⟩, ⟨by rw [r2]; unfold M63; simp only [List.length_nil]; omega, r3⟩⟩, by simp only [Node.sz, cnk_len, q2, r2, List.length_nil]; omega⟩
      · have := g3.2.1 (by omega); show I64 p3.1; unfold I64; omega
      · obtain ⟨j, hj, rfl⟩ := List.mem_map.1 hx
        have := List.mem_range.1 hj
        unfold I64; omega
      · exact wrap_I64 _
      · have := g5.1; have := g5.2.1; have := wrap_I64 (c.size + 1); unfold I64 at *; show I64 p5.1; unfold I64; by_cases h0 : 0 < IntKind.i64.wrap (c.size + 1)
        · have := g5.2.1 h0; omega
        · have := g5.2.2 (by omega); omega
    · unfold vc_spec_l7Draw
      refine ⟨_, _, _, rfl, c1, _, _, _, _, _, _, _, _, _, _, _, _, _, c_NodeNewS _, _, _, _, rfl, c2, fun g => absurd hst (by simpa using g), fun _ => ⟨_, _, _, rfl, c3, _, _, _, rfl, c4,
        fun n0 n1 n2 n3 n4 n5 n6 n7 es n8 n9 et eg j m => ∃ k : Nat, k ≤ N ∧ j = N - k ∧ m = N - k ∧ n0 = p2.1 ∧ n1 = IntKind.i64.wrap (1 + p1.1) ∧ n2 = p3.1 ∧ n3 = 0 ∧ n4 = 0 ∧ n5 = 0 ∧ n6 = 0 ∧ n7 = 0 ∧ es = ints (cnk N k) ∧ n8 = 0 ∧ n9 = 0 ∧ et = [] ∧ eg = [],
        ⟨N, 0, Nat.zero_le _, by rw [hN]; omega, rfl, rfl, rfl, rfl, rfl, rfl, rfl, rfl, rfl, rfl, rfl, rfl, rfl, rfl⟩, ?_⟩⟩
      rintro n0 n1 n2 n3 n4 n5 n6 n7 es n8 n9 et eg j m ⟨k, hk, rfl, rfl, rfl, rfl, rfl, rfl, rfl, rfl, rfl, rfl, rfl, rfl, rfl, rfl, rfl⟩
      simp only [decide_eq_true_eq, decide_eq_false_iff_not]
      refine ⟨fun g => ?_, fun g => ?_⟩
      · have e1 : IntKind.i64.wrap ((N : Int) - k - 1) = N - 1 - k := by rw [wrap_id (by omega) (by omega)]; omega
        simp only [n_ints, cnk_len, n_one1]
        refine ⟨by omega, by omega, ⟨by trivial, by trivial, by trivial⟩, N - (k + 1), by omega, k + 1, by omega, by rw [e1]; omega, by trivial, by trivial, by trivial, by trivial, by trivial, by trivial, by trivial, by trivial, by trivial, ?_, by trivial, by trivial, by trivial, by trivial⟩
        rw [e1, ints_snoc, cnk_succ]
      have hkN : k = N := by omega
      subst hkN
      have hnl : nI (DV.sl 1 (ints (cnk k k))).n = k := by simp only [nI, n_ints, cnk_len]
      rw [hnl]
      refine ⟨fun _ => ?_, fun g2 => absurd (by omega) g2⟩
      have e8 : (DV.sl 1 (ints (cnk k k))).getP [Int.toNat 0 * 1] = iV ((k : Int) - 1) := by
        obtain ⟨k', rfl⟩ : ∃ k', k = k' + 1 := ⟨k - 1, by omega⟩
        simp [cnk, List.range_succ_eq_map, ints, DV.getP, DV.es]
      rw [e8]
      simp only [isI_iV, asI_iV]
      refine ⟨by omega, by omega, ?_, by trivial, _, _, _, rfl, c5, ?_⟩
      · refine ⟨(by decide : 8 < 13), ?_, trivial⟩
        show Int.toNat 0 * 1 < (ints (cnk k k)).length
        rw [ints_length, cnk_len]; simp; omega
      refine ⟨_, _, _, rfl, c6, fun i1 i2 n0 n1 n2 n3 n4 n5 n6 n7 es n8 n9 et eg j m => ∃ q : Nat, q ≤ M ∧ j = M - q ∧ m = M - q ∧ i1 = (T q).1.1 ∧ i2 = (T q).1.2 ∧ n0 = p2.1 ∧ n1 = IntKind.i64.wrap (1 + p1.1) ∧ n2 = p3.1 ∧ n3 = 0 ∧ n4 = 0 ∧ n5 = 0 ∧ n6 = 0 ∧ n7 = 0 ∧ es = ints (cnk k k) ∧ n8 = IntKind.i64.wrap ((k : Int) - 1 + 1) ∧ n9 = p5.1 ∧ et = thgs (T q).2 ∧ eg = [],
        ⟨M, by trivial, by trivial, 0, Nat.zero_le _, by rw [hM]; omega, rfl, by rw [t0], by rw [t0], rfl, rfl, rfl, rfl, rfl, rfl, rfl, rfl, rfl, rfl, rfl, by rw [t0]; rfl, rfl⟩, ?_⟩
      rintro i1 i2 n0 n1 n2 n3 n4 n5 n6 n7 es n8 n9 et eg j m ⟨-, -, q, hq, rfl, rfl, rfl, rfl, rfl, rfl, rfl, rfl, rfl, rfl, rfl, rfl, rfl, rfl, rfl, rfl, rfl⟩
      obtain ⟨s1, s2, s3⟩ := ti q
      refine ⟨fun g => ?_, fun g => ?_⟩
      · obtain ⟨w1, w2, w3⟩ := hft (T q).1 s1
        refine ⟨_, _, _, _, _, rfl, w3, ?_⟩
        simp only [n_things, s2, n_one3']
        refine ⟨by omega, by omega, by trivial, M - (q + 1), by omega, by trivial, by trivial, q + 1, by omega, by rw [wrap_id (by omega) (by omega)]; omega, by trivial, by rw [ts], by rw [ts], by trivial, by trivial, by trivial, by trivial, by trivial, by trivial, by trivial, by trivial, by trivial, by trivial, by trivial, ?_, by trivial⟩
        rw [ts, thgs_snoc1]
      have hqM : q = M := by omega
      subst hqM
      refine ⟨_, _, _, rfl, c7, fun i1 i2 n0 n1 n2 n3 n4 n5 n6 n7 es n8 n9 et eg j m => ∃ y : Nat, y ≤ L ∧ j = L - y ∧ m = L - y ∧ i1 = (U y).1.1 ∧ i2 = (U y).1.2 ∧ n0 = p2.1 ∧ n1 = IntKind.i64.wrap (1 + p1.1) ∧ n2 = p3.1 ∧ n3 = 0 ∧ n4 = 0 ∧ n5 = 0 ∧ n6 = 0 ∧ n7 = 0 ∧ es = ints (cnk k k) ∧ n8 = IntKind.i64.wrap ((k : Int) - 1 + 1) ∧ n9 = p5.1 ∧ et = thgs (T q).2 ∧ eg = ints (U y).2,
        ⟨L, by trivial, by trivial, 0, Nat.zero_le _, by rw [hL]; omega, rfl, by rw [u0], by rw [u0], rfl, rfl, rfl, rfl, rfl, rfl, rfl, rfl, rfl, rfl, rfl, rfl, by rw [u0]; rfl⟩, ?_⟩
      rintro i1 i2 n0 n1 n2 n3 n4 n5 n6 n7 es n8 n9 et eg j m ⟨-, -, y, hy, rfl, rfl, rfl, rfl, rfl, rfl, rfl, rfl, rfl, rfl, rfl, rfl, rfl, rfl, rfl, rfl, rfl⟩
      obtain ⟨z1, z2, z3⟩ := ui y
      refine ⟨fun g => ?_, fun g => ?_⟩
      · obtain ⟨w1, w2, w3⟩ := hf (U y).1 256 z1
        refine ⟨_, _, _, rfl, w3, ?_⟩
        simp only [n_ints, z2, n_one1, List.length_nil]
        refine ⟨by omega, by omega, by trivial, L - (y + 1), by omega, by trivial, by trivial, y + 1, by omega, by rw [wrap_id (by omega) (by omega)]; omega, by trivial, by rw [us], by rw [us], by trivial, by trivial, by trivial, by trivial, by trivial, by trivial, by trivial, by trivial, by trivial, by trivial, by trivial, by trivial, ?_⟩
        rw [us, ints_snoc]
      have hyL : y = L := by omega
      subst hyL
      rw [hst]
      exact ⟨rfl, rfl⟩
  · have hN00 : N = 0 := by omega
    obtain ⟨g6, k6, c6⟩ := hf p4.2 3 k4
    generalize f p4.2 3 = p6 at *
    obtain ⟨M, hM⟩ := Int.eq_ofNat_of_zero_le g6.1
    have hM3 : M < 3 := by have := g6.2.1 (by omega); omega
    obtain ⟨T, t0, ts, ti⟩ := things_iter hft k6
    obtain ⟨q1, q2, q3⟩ := ti M
    obtain ⟨g7, k7, c7⟩ := hf (T M).1 3 q1
    generalize hp7 : f (T M).1 3 = p7 at *
    obtain ⟨L, hL⟩ := Int.eq_ofNat_of_zero_le g7.1
    have hL3 : L < 3 := by have := g7.2.1 (by omega); omega
    obtain ⟨U, u0, us, ui⟩ := tags_iter hf k7 (l0 := []) ⟨by simp, fun x hx => by cases hx⟩
    obtain ⟨r1, r2, r3⟩ := ui L
    have hz0 : I64 0 := by unfold I64; omega
    refine ⟨⟨1, IntKind.i64.wrap (1 + p1.1), p3.1, 0, 0, 0, 0, 0, cnk N N, 0, 0, (T M).2, (U L).2⟩, (U L).1.1, (U L).1.2, ?_, r1, k_spec_l7Draw ?_⟩
    · refine ⟨⟨by unfold I64; simp only; omega, wrap_I64 _, ?_, hz0, hz0, hz0, hz0, hz0, ⟨by rw [cnk_len]; unfold M63; omega, fun x hx => ?_⟩, ?_, ?_, ⟨by rw [q2]; unfold M63; omega, q3⟩, ⟨by rw [r2]; unfold M63; simp only [List.length_nil]; omega, r3⟩⟩, by simp only [Node.sz, cnk_len, q2, r2, List.length_nil]; omega⟩
      · have := g3.2.1 (by omega); show I64 p3.1; unfold I64; omega
      · obtain ⟨j, hj, rfl⟩ := List.mem_map.1 hx
        have := List.mem_range.1 hj
        unfold I64; omega
      · exact hz0
      · exact hz0
    · unfold vc_spec_l7Draw
      refine ⟨_, _, _, rfl, c1, _, _, _, _, _, _, _, _, _, _, _, _, _, c_NodeNewS _, _, _, _, rfl, c2, fun g => absurd hst (by simpa using g), fun _ => ⟨_, _, _, rfl, c3, _, _, _, rfl, c4,
        fun n0 n1 n2 n3 n4 n5 n6 n7 es n8 n9 et eg j m => ∃ k : Nat, k ≤ N ∧ j = N - k ∧ m = N - k ∧ n0 = p2.1 ∧ n1 = IntKind.i64.wrap (1 + p1.1) ∧ n2 = p3.1 ∧ n3 = 0 ∧ n4 = 0 ∧ n5 = 0 ∧ n6 = 0 ∧ n7 = 0 ∧ es = ints (cnk N k) ∧ n8 = 0 ∧ n9 = 0 ∧ et = [] ∧ eg = [],
        ⟨N, 0, Nat.zero_le _, by rw [hN]; omega, rfl, rfl, rfl, rfl, rfl, rfl, rfl, rfl, rfl, rfl, rfl, rfl, rfl, rfl⟩, ?_⟩⟩
      rintro n0 n1 n2 n3 n4 n5 n6 n7 es n8 n9 et eg j m ⟨k, hk, rfl, rfl, rfl, rfl, rfl, rfl, rfl, rfl, rfl, rfl, rfl, rfl, rfl, rfl, rfl⟩
      simp only [decide_eq_true_eq, decide_eq_false_iff_not]
      refine ⟨fun g => ?_, fun g => ?_⟩
      · have e1 : IntKind.i64.wrap ((N : Int) - k - 1) = N - 1 - k := by rw [wrap_id (by omega) (by omega)]; omega
        simp only [n_ints, cnk_len, n_one1]
        refine ⟨by omega, by omega, ⟨by trivial, by trivial, by trivial⟩, N - (k + 1), by omega, k + 1, by omega, by rw [e1]; omega, by trivial, by trivial, by trivial, by trivial, by trivial, by trivial, by trivial, by trivial, by trivial, ?_, by trivial, by trivial, by trivial, by trivial⟩
        rw [e1, ints_snoc, cnk_succ]
      have hkN : k = N := by omega
      subst hkN
      have hnl : nI (DV.sl 1 (ints (cnk k k))).n = k := by simp only [nI, n_ints, cnk_len]
      rw [hnl]
      refine ⟨fun g2 => absurd g2 (by omega), fun _ => ?_⟩
      refine ⟨_, _, _, rfl, c6, fun i1 i2 n0 n1 n2 n3 n4 n5 n6 n7 es n8 n9 et eg j m => ∃ q : Nat, q ≤ M ∧ j = M - q ∧ m = M - q ∧ i1 = (T q).1.1 ∧ i2 = (T q).1.2 ∧ n0 = p2.1 ∧ n1 = IntKind.i64.wrap (1 + p1.1) ∧ n2 = p3.1 ∧ n3 = 0 ∧ n4 = 0 ∧ n5 = 0 ∧ n6 = 0 ∧ n7 = 0 ∧ es = ints (cnk k k) ∧ n8 = 0 ∧ n9 = 0 ∧ et = thgs (T q).2 ∧ eg = [],
        ⟨M, by trivial, by trivial, 0, Nat.zero_le _, by rw [hM]; omega, rfl, by rw [t0], by rw [t0], rfl, rfl, rfl, rfl, rfl, rfl, rfl, rfl, rfl, rfl, rfl, by rw [t0]; rfl, rfl⟩, ?_⟩
      rintro i1 i2 n0 n1 n2 n3 n4 n5 n6 n7 es n8 n9 et eg j m ⟨-, -, q, hq, rfl, rfl, rfl, rfl, rfl, rfl, rfl, rfl, rfl, rfl, rfl, rfl, rfl, rfl, rfl, rfl, rfl⟩
      obtain ⟨s1, s2, s3⟩ := ti q
      refine ⟨fun g => ?_, fun g => ?_⟩
      · obtain ⟨w1, w2, w3⟩ := hft (T q).1 s1
        refine ⟨_, _, _, _, _, rfl, w3, ?_⟩
        simp only [n_things, s2, n_one3']
        refine ⟨by omega, by omega, by trivial, M - (q + 1), by omega, by trivial, by trivial, q + 1, by omega, by rw [wrap_id (by omega) (by omega)]; omega, by trivial, by rw [ts], by rw [ts], by trivial, by trivial, by trivial, by trivial, by trivial, by trivial, by trivial, by trivial, by trivial, by trivial, by trivial, ?_, by trivial⟩
        rw [ts, thgs_snoc1]
      have hqM : q = M := by omega
      subst hqM
      refine ⟨_, _, _, rfl, c7, fun i1 i2 n0 n1 n2 n3 n4 n5 n6 n7 es n8 n9 et eg j m => ∃ y : Nat, y ≤ L ∧ j = L - y ∧ m = L - y ∧ i1 = (U y).1.1 ∧ i2 = (U y).1.2 ∧ n0 = p2.1 ∧ n1 = IntKind.i64.wrap (1 + p1.1) ∧ n2 = p3.1 ∧ n3 = 0 ∧ n4 = 0 ∧ n5 = 0 ∧ n6 = 0 ∧ n7 = 0 ∧ es = ints (cnk k k) ∧ n8 = 0 ∧ n9 = 0 ∧ et = thgs (T q).2 ∧ eg = ints (U y).2,
        ⟨L, by trivial, by trivial, 0, Nat.zero_le _, by rw [hL]; omega, rfl, by rw [u0], by rw [u0], rfl, rfl, rfl, rfl, rfl, rfl, rfl, rfl, rfl, rfl, rfl, rfl, by rw [u0]; rfl⟩, ?_⟩
      rintro i1 i2 n0 n1 n2 n3 n4 n5 n6 n7 es n8 n9 et eg j m ⟨-, -, y, hy, rfl, rfl, rfl, rfl, rfl, rfl, rfl, rfl, rfl, rfl, rfl, rfl, rfl, rfl, rfl, rfl, rfl⟩
      obtain ⟨z1, z2, z3⟩ := ui y
      refine ⟨fun g => ?_, fun g => ?_⟩
      · obtain ⟨w1, w2, w3⟩ := hf (U y).1 256 z1
        refine ⟨_, _, _, rfl, w3, ?_⟩
        simp only [n_ints, z2, n_one1, List.length_nil]
        refine ⟨by omega, by omega, by trivial, L - (y + 1), by omega, by trivial, by trivial, y + 1, by omega, by rw [wrap_id (by omega) (by omega)]; omega, by trivial, by rw [us], by rw [us], by trivial, by trivial, by trivial, by trivial, by trivial, by trivial, by trivial, by trivial, by trivial, by trivial, by trivial, by trivial, ?_⟩
        rw [us, ints_snoc]
      have hyL : y = L := by omega
      subst hyL
      rw [hst]
      exact ⟨rfl, rfl⟩
end Go.Proofs.Ythmpdfmdhfgaaaa
