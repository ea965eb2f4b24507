/- Contracts of small functions: a chunk drawn that is to be wiped. -/
import Derived.Test.YthmpdfmdhfgaaaaHWq
import Derived.Test.YthmpdfmdhfgaaaaVHWr
namespace Go.Proofs.Ythmpdfmdhfgaaaa
open Go Go.Proofs.Ythmpdfmdhfgaaaa.DL
set_option maxRecDepth 100000

theorem dO {v : Value} {a : List Int} (ha : a.length ≤ M63) : ∃ f : Int × Int → Int → Bool × (Int × Int), ∀ k n, 0 ≤ k.1 → 0 ≤ (f k n).2.1 ∧
    CallD Try.prog F_spec_l1Once [Cur v a k.1 k.2, iS n] fun r bs => r = bS (f k n).1 ∧ bs.getD 0 .dead = Cur v a (f k n).2.1 (f k n).2.2 := by
  have h : ∀ q : (Int × Int) × Int, ∃ p : Bool × (Int × Int), 0 ≤ q.1.1 → 0 ≤ p.2.1 ∧
      CallD Try.prog F_spec_l1Once [Cur v a q.1.1 q.1.2, iS q.2] fun r bs => r = bS p.1 ∧ bs.getD 0 .dead = Cur v a p.2.1 p.2.2 := fun q => by
    by_cases hq : 0 ≤ q.1.1
    · obtain ⟨x, i, h, h2, h3⟩ := c_l1Once (v := v) ha hq q.1.2 q.2
      exact ⟨(x, (i, h)), fun _ => ⟨h2, h3⟩⟩
    · exact ⟨(false, (0, 0)), fun g => absurd g hq⟩
  obtain ⟨f, hf⟩ := Classical.skolem.1 h
  exact ⟨fun k n => f (k, n), fun k n hk => hf (k, n) hk⟩
def stepW (f : Int × Int → Int → Bool × (Int × Int)) (st : List Int) (s : Nat × (Int × Int) × Int) : Nat × (Int × Int) × Int :=
  if st.getD s.1 0 = 2 then (s.1 + 1, (f s.2.1 4).2, if (f s.2.1 4).1 then s.2.2 else (s.1 : Int)) else (s.1 + 1, s.2.1, s.2.2)
abbrev tCPII (c : Conf) (p : Pool) (n m : Int) : SV := .tup [.agg [iC c.chunks, iC c.size, iC c.slots, iC c.tax, iC c.slice, iC c.gens], .agg [.own (.sl 1 (byts p.mem)), .own (.sl 1 (ints p.st)), .own (.sl 1 (ints p.own))], .cell (iC n), .cell (iC m)]
theorem getP1 (es : List DV) (k : Nat) : (DV.sl 1 es).getP [k] = es.getD k dfl := rfl
theorem wipeI_length (l : List Int) (a n : Int) : (wipeI l a n).length = l.length := by
  unfold wipeI; split
  · rfl
  · exact wipeL_length ..
set_option maxHeartbeats 4000000 in
theorem c_DrawWipeSome {v : Value} {a : List Int} (ha : a.length ≤ M63) : ∃ c p k f, PoolD p ∧ CallD Try.prog F_spec_DrawWipeSome [codeS v a] fun r _ => r = tCPII c p k f := by
  obtain ⟨fo, hfo⟩ := dO (v := v) ha
  obtain ⟨i0, h0, k0, c0⟩ := c_l1New (v := v) ha
  obtain ⟨c, p, i1, h1, ⟨hc, hL⟩, k1, c1⟩ := c_l4Draw (v := v) ha k0 h0
  have hD : PoolD p := by
    obtain ⟨q3, q4, q5⟩ := hL
    have hck := hc.chunks
    have hsz := hc.size
    have m2 : c.chunks * c.size ≤ 12 * 16 := Int.mul_le_mul hck.2 hsz.2 (by omega) (by omega)
    exact ⟨by omega, by omega, by omega⟩
  obtain ⟨b0, i2, h2, k2, c2⟩ := c_l1Once (v := v) ha k1 h1 6
  cases b0
  · obtain ⟨i3, h3, k3, e3⟩ : ∃ i3 h3 : Int, 0 ≤ i3 ∧ (i3 = i2 ∧ h3 = h2) := ⟨i2, h2, k2, rfl, rfl⟩
    obtain ⟨rfl, rfl⟩ := e3
    obtain ⟨x, i4, h4, gx, k4, cx⟩ := c_l1Below (v := v) ha k3 h3 13
    obtain ⟨T, e0, es⟩ := iter_ex (stepW fo p.st) (0, (i4, h4), IntKind.i64.wrap (x - 1))
    have hT : ∀ k, (T k).1 = k ∧ 0 ≤ (T k).2.1.1 := fun k => by
      induction k with
      | zero => rw [e0]; exact ⟨rfl, k4⟩
      | succ k ih =>
        rw [es]
        unfold stepW
        split
        · exact ⟨by simp only [ih.1], (hfo _ 4 ih.2).1⟩
        · exact ⟨by simp only [ih.1], ih.2⟩
    obtain ⟨y, i5, h5, gy, k5, cy⟩ := c_l1Int (v := v) ha (hT p.st.length).2 (T p.st.length).2.1.2 (l := [0, 0, 4, 7, 8, 12, -1, 16]) (by decide)
    obtain ⟨b, i6, h6, k6, cb⟩ := c_l1Once (v := v) ha k5 h5 4
    have hst := hD.st
    have hmm := hD.mem
    let K := (T p.st.length).2.2
    let P : Pool := if (decide (0 ≤ K) && (decide (K < p.st.length) && (decide (0 < y) && !b))) = true then { p with mem := wipeI p.mem (IntKind.i64.wrap (K * c.size)) y } else p
    have no : (decide (0 ≤ K) && (decide (K < p.st.length) && (decide (0 < y) && !b))) = false → tCPII c p K y = tCPII c P K y := fun g => by
      show _ = tCPII c (if _ then _ else _) K y
      rw [g]; rfl
    have yes : (decide (0 ≤ K) && (decide (K < p.st.length) && (decide (0 < y) && !b))) = true → tCPII c { p with mem := wipeI p.mem (IntKind.i64.wrap (K * c.size)) y } K y = tCPII c P K y := fun g => by
      show _ = tCPII c (if _ then _ else _) K y
      rw [if_pos g]
    have hP : PoolD P := by
      show PoolD (if _ then _ else _)
      split
      · exact ⟨by rw [wipeI_length]; exact hD.mem, hD.st, hD.own⟩
      · exact hD
    refine ⟨c, P, K, y, hP, k_spec_DrawWipeSome ?_⟩
    unfold vc_spec_DrawWipeSome
    refine ⟨_, _, rfl, c0, _, _, _, _, _, _, _, _, _, _, _, rfl, c1, _, _, _, rfl, c2, fun g => (by cases g), fun _ => ⟨_, _, _, rfl, cx, ?_⟩⟩
    refine ⟨fun i h k n m => ∃ j : Nat, n = j ∧ j ≤ p.st.length ∧ m = p.st.length - j ∧ i = (T j).2.1.1 ∧ h = (T j).2.1.2 ∧ k = (T j).2.2, ⟨p.st.length, rfl, rfl, 0, rfl, by omega, rfl, by rw [e0], by rw [e0], by rw [e0]⟩, ?_⟩
    rintro i h k n m ⟨-, -, j, rfl, hj, rfl, rfl, rfl, rfl⟩
    obtain ⟨q1, q2⟩ := hT j
    have hs := es j
    simp only [nI, n_ints, decide_eq_true_eq (p := (j : Int) < p.st.length), decide_eq_false_iff_not (p := (j : Int) < p.st.length), Int.toNat_natCast, Nat.mul_one, getP1]
    refine ⟨fun g => ?_, fun g => ?_⟩
    · have hlt : j < p.st.length := by omega
      rw [getD_ints hlt]
      simp only [isI_iV, asI_iV, wrap_id (n := (j : Int) + 1) (by omega) (by omega)]
      obtain ⟨r1, r2⟩ := hfo (T j).2.1 4 q2
      refine ⟨by omega, by omega, ⟨(by decide : 0 + 1 < 3), (by show j < (ints p.st).length; rw [ints_length]; exact hlt), trivial⟩, trivial, fun g2 => ⟨_, _, _, rfl, r2, fun g3 => ⟨⟨trivial, trivial, trivial, trivial⟩, p.st.length - (j + 1), by omega, trivial, trivial, j + 1, by omega, by omega, rfl, ?_⟩, fun g3 => ⟨⟨trivial, trivial, trivial, trivial⟩, p.st.length - (j + 1), by omega, trivial, trivial, j + 1, by omega, by omega, rfl, ?_⟩⟩, fun g2 => ⟨⟨trivial, trivial, trivial, trivial⟩, p.st.length - (j + 1), by omega, trivial, trivial, j + 1, by omega, by omega, rfl, ?_⟩⟩
      · have g2 := of_decide_eq_true g2
        rw [hs]; unfold stepW
        rw [q1, if_pos g2, g3]
        exact ⟨rfl, rfl, rfl⟩
      · have g2 := of_decide_eq_true g2
        rw [hs]; unfold stepW
        rw [q1, if_pos g2, g3]
        exact ⟨rfl, rfl, rfl⟩
      · have g2 := of_decide_eq_false g2
        rw [hs]; unfold stepW
        rw [q1, if_neg g2]
        exact ⟨rfl, rfl, rfl⟩
    · have : j = p.st.length := by omega
      subst this
      refine ⟨_, _, _, rfl, cy, fun g1 => ⟨fun g2 => ⟨fun g3 => ⟨_, _, _, rfl, cb, fun g4 => no ?_, fun g4 => ⟨_, c_WipeS (by omega) (wrap_I64 _), yes ?_⟩⟩, fun g3 => no ?_⟩, fun g2 => no ?_⟩, fun g1 => no ?_⟩
      · rw [g4]; simp
      · show (decide (0 ≤ (T p.st.length).2.2) && (decide ((T p.st.length).2.2 < p.st.length) && (decide (0 < y) && !b))) = true
        rw [g1, g2, g3, g4]; rfl
      · rw [g3]; simp
      · show (decide (0 ≤ (T p.st.length).2.2) && (decide ((T p.st.length).2.2 < p.st.length) && (decide (0 < y) && !b))) = false
        rw [g2]; simp
      · show (decide (0 ≤ (T p.st.length).2.2) && (decide ((T p.st.length).2.2 < p.st.length) && (decide (0 < y) && !b))) = false
        rw [g1]; rfl
  · clear hD hL hc
    obtain ⟨c', p', i3, h3, hD, k3, c3⟩ := c_l4Any (v := v) ha k2 h2
    obtain ⟨x, i4, h4, gx, k4, cx⟩ := c_l1Below (v := v) ha k3 h3 13
    obtain ⟨T, e0, es⟩ := iter_ex (stepW fo p'.st) (0, (i4, h4), IntKind.i64.wrap (x - 1))
    have hT : ∀ k, (T k).1 = k ∧ 0 ≤ (T k).2.1.1 := fun k => by
      induction k with
      | zero => rw [e0]; exact ⟨rfl, k4⟩
      | succ k ih =>
        rw [es]
        unfold stepW
        split
        · exact ⟨by simp only [ih.1], (hfo _ 4 ih.2).1⟩
        · exact ⟨by simp only [ih.1], ih.2⟩
    obtain ⟨y, i5, h5, gy, k5, cy⟩ := c_l1Int (v := v) ha (hT p'.st.length).2 (T p'.st.length).2.1.2 (l := [0, 0, 4, 7, 8, 12, -1, 16]) (by decide)
    obtain ⟨b, i6, h6, k6, cb⟩ := c_l1Once (v := v) ha k5 h5 4
    have hst := hD.st
    have hmm := hD.mem
    let K := (T p'.st.length).2.2
    let P : Pool := if (decide (0 ≤ K) && (decide (K < p'.st.length) && (decide (0 < y) && !b))) = true then { p' with mem := wipeI p'.mem (IntKind.i64.wrap (K * c'.size)) y } else p'
    have no : (decide (0 ≤ K) && (decide (K < p'.st.length) && (decide (0 < y) && !b))) = false → tCPII c' p' K y = tCPII c' P K y := fun g => by
      show _ = tCPII c' (if _ then _ else _) K y
      rw [g]; rfl
    have yes : (decide (0 ≤ K) && (decide (K < p'.st.length) && (decide (0 < y) && !b))) = true → tCPII c' { p' with mem := wipeI p'.mem (IntKind.i64.wrap (K * c'.size)) y } K y = tCPII c' P K y := fun g => by
      show _ = tCPII c' (if _ then _ else _) K y
      rw [if_pos g]
    have hP : PoolD P := by
      show PoolD (if _ then _ else _)
      split
      · exact ⟨by rw [wipeI_length]; exact hD.mem, hD.st, hD.own⟩
      · exact hD
    refine ⟨c', P, K, y, hP, k_spec_DrawWipeSome ?_⟩
    unfold vc_spec_DrawWipeSome
    refine ⟨_, _, rfl, c0, _, _, _, _, _, _, _, _, _, _, _, rfl, c1, _, _, _, rfl, c2, fun _ => ⟨_, _, _, _, _, _, _, _, _, _, _, rfl, c3, _, _, _, rfl, cx, ?_⟩, fun g => (by cases g)⟩
    refine ⟨fun i h k n m => ∃ j : Nat, n = j ∧ j ≤ p'.st.length ∧ m = p'.st.length - j ∧ i = (T j).2.1.1 ∧ h = (T j).2.1.2 ∧ k = (T j).2.2, ⟨p'.st.length, rfl, rfl, 0, rfl, by omega, rfl, by rw [e0], by rw [e0], by rw [e0]⟩, ?_⟩
    rintro i h k n m ⟨-, -, j, rfl, hj, rfl, rfl, rfl, rfl⟩
    obtain ⟨q1, q2⟩ := hT j
    have hs := es j
    simp only [nI, n_ints, decide_eq_true_eq (p := (j : Int) < p'.st.length), decide_eq_false_iff_not (p := (j : Int) < p'.st.length), Int.toNat_natCast, Nat.mul_one, getP1]
    refine ⟨fun g => ?_, fun g => ?_⟩
    · have hlt : j < p'.st.length := by omega
      rw [getD_ints hlt]
      simp only [isI_iV, asI_iV, wrap_id (n := (j : Int) + 1) (by omega) (by omega)]
      obtain ⟨r1, r2⟩ := hfo (T j).2.1 4 q2
      refine ⟨by omega, by omega, ⟨(by decide : 0 + 1 < 3), (by show j < (ints p'.st).length; rw [ints_length]; exact hlt), trivial⟩, trivial, fun g2 => ⟨_, _, _, rfl, r2, fun g3 => ⟨⟨trivial, trivial, trivial, trivial⟩, p'.st.length - (j + 1), by omega, trivial, trivial, j + 1, by omega, by omega, rfl, ?_⟩, fun g3 => ⟨⟨trivial, trivial, trivial, trivial⟩, p'.st.length - (j + 1), by omega, trivial, trivial, j + 1, by omega, by omega, rfl, ?_⟩⟩, fun g2 => ⟨⟨trivial, trivial, trivial, trivial⟩, p'.st.length - (j + 1), by omega, trivial, trivial, j + 1, by omega, by omega, rfl, ?_⟩⟩
      · have g2 := of_decide_eq_true g2
        rw [hs]; unfold stepW
        rw [q1, if_pos g2, g3]
        exact ⟨rfl, rfl, rfl⟩
      · have g2 := of_decide_eq_true g2
        rw [hs]; unfold stepW
        rw [q1, if_pos g2, g3]
        exact ⟨rfl, rfl, rfl⟩
      · have g2 := of_decide_eq_false g2
        rw [hs]; unfold stepW
        rw [q1, if_neg g2]
        exact ⟨rfl, rfl, rfl⟩
    · have : j = p'.st.length := by omega
      subst this
      refine ⟨_, _, _, rfl, cy, fun g1 => ⟨fun g2 => ⟨fun g3 => ⟨_, _, _, rfl, cb, fun g4 => no ?_, fun g4 => ⟨_, c_WipeS (by omega) (wrap_I64 _), yes ?_⟩⟩, fun g3 => no ?_⟩, fun g2 => no ?_⟩, fun g1 => no ?_⟩
      · rw [g4]; simp
      · show (decide (0 ≤ (T p'.st.length).2.2) && (decide ((T p'.st.length).2.2 < p'.st.length) && (decide (0 < y) && !b))) = true
        rw [g1, g2, g3, g4]; rfl
      · rw [g3]; simp
      · show (decide (0 ≤ (T p'.st.length).2.2) && (decide ((T p'.st.length).2.2 < p'.st.length) && (decide (0 < y) && !b))) = false
        rw [g2]; simp
      · show (decide (0 ≤ (T p'.st.length).2.2) && (decide ((T p'.st.length).2.2 < p'.st.length) && (decide (0 < y) && !b))) = false
        rw [g1]; rfl
end Go.Proofs.Ythmpdfmdhfgaaaa
