/- Contracts of small functions: pools made new, compared, drawn. -/
import Derived.Test.YthmpdfmdhfgaaaaHPp
import Derived.Test.YthmpdfmdhfgaaaaVHPq
namespace Go.Proofs.Ythmpdfmdhfgaaaa
open Go Go.Proofs.Ythmpdfmdhfgaaaa.DL
set_option maxRecDepth 100000

theorem rep_setq (a b q : Nat) (x y : Int) (h : q ≤ b) : overlay (ints (List.replicate a x ++ List.replicate b y)) a (ints (List.replicate q x)) = ints (List.replicate (a + q) x ++ List.replicate (b - q) y) := by
  unfold overlay
  rw [← ints_app, setRange_eq _ _ _ (by simp [ints]; omega)]
  simp only [ints, List.map_replicate, List.length_replicate]
  rw [List.take_append_of_le_length (by simp), List.take_of_length_le (by simp), List.drop_append, List.drop_of_length_le (by simp)]
  simp only [List.length_replicate, List.nil_append, List.drop_replicate, List.map_append, List.map_replicate]
  rw [← List.append_assoc, List.replicate_append_replicate, show a + q - a = q by omega]
theorem c_Repeat (N : Nat) (h : N ≤ 12) : CallD Try.prog F_slices_Repeat_int [rI [-1], iS (N : Int)] fun r _ => r = oI (List.replicate N (-1)) := by
  refine k_slices_Repeat_int ?_
  unfold vc_slices_Repeat_int
  have e1 : IntKind.u64.wrap (nI (DV.sl 1 (ints [-1])).n) = 1 := by kernel_rfl
  have e2 : IntKind.u64.wrap (N : Int) = N := by rw [wrapU]; omega
  have e3 : IntKind.i64.wrap (N : Int) = N := wrap_id (by omega) (by omega)
  rw [e1, e2]
  refine ⟨fun g => by simp at g; omega, fun _ => ⟨0, N, c_Mul N h, fun g => by simp at g, fun _ => ⟨fun g => by simp at g; omega, fun _ => ?_⟩⟩⟩
  rw [e3]
  refine ⟨rfl, by omega, by simp only [nI]; omega, by omega, by omega, AllVal_ints _, trivial, by simp [es_sl]; omega, ?_⟩
  refine ⟨fun es i m => ∃ k : Nat, i = k ∧ k ≤ N ∧ (0 < k ∨ N = 0) ∧ m = N - k ∧ es = ints (List.replicate k (-1) ++ List.replicate (N - k) 0), ⟨N - min N 1, min N 1, ?_, by omega, by omega, rfl, ?_⟩, ?_⟩
  · simp [nI, ints]
  · rw [Int.toNat_natCast, zero_ints]
    have := rep_setq 0 N (min N 1) (-1) 0 (by omega)
    simp only [List.replicate_zero, List.nil_append, Nat.zero_add] at this
    rw [← this]
    congr 1
    rw [ints_length, ints_length, List.length_replicate, List.length_singleton, take_ints]
    by_cases hN : N = 0
    · subst hN; rfl
    · rw [show min N 1 = 1 by omega]; rfl
  · rintro es i m ⟨k, rfl, hk, hk0, rfl, rfl⟩
    have hlen : (List.replicate k (-1 : Int) ++ List.replicate (N - k) 0).length = N := by simp; omega
    simp only [n_ints, hlen, nI, Option.getD_some, Int.toNat_natCast, Nat.mul_one, Int.toNat_zero, List.drop_zero, take_ints, drop_ints, ints_length, List.length_take, List.length_drop, decide_eq_true_eq, decide_eq_false_iff_not, es_sl, Nat.min_self]
    have et : List.take k (List.replicate k (-1 : Int) ++ List.replicate (N - k) 0) = List.replicate k (-1) := by
      rw [List.take_append_of_le_length (by simp), List.take_of_length_le (by simp)]
    rw [et]
    simp only [List.take_replicate]
    have em : min k N = k := by omega
    refine ⟨fun g => ⟨by omega, by omega, by omega, by omega, by omega, by omega, AllVal_ints _, trivial, by omega, trivial, N - (k + min (N - k) k), by omega, k + min (N - k) k, ?_, by omega, by omega, by omega, ?_⟩, fun g => ?_⟩
    · rw [em, wrap_id (by omega) (by omega)]; omega
    · rw [em, show min (min (N - k) k) k = min (N - k) k by omega, rep_setq k (N - k) _ (-1) 0 (by omega)]
      congr 3
      omega
    · have : k = N := by omega
      subst this
      simp
theorem c_PoolNew (c : Conf) : CallD Try.prog F_impl_PoolNew [confS c] fun r _ => r = oPool (newP c) := by
  refine k_impl_PoolNew ?_
  unfold vc_impl_PoolNew
  refine ⟨_, c_confOk c, fun g1 => ?_, fun g1 => by unfold newP; rw [g1]; rfl⟩
  obtain ⟨hb, hb1, hb2⟩ := bytesOf_good g1
  obtain ⟨⟨h1, h2⟩, -⟩ := Conf.good_iff.1 g1
  have hr := c_Repeat c.chunks.toNat (by omega)
  rw [show ((c.chunks.toNat : Nat) : Int) = c.chunks by omega] at hr
  refine ⟨_, c_BytesOf c, byts (List.replicate (bytesOf c).toNat 0), c_Zeros (by omega) (by omega), rfl, by omega, by simp only [nI]; omega, by omega, by omega, ints (List.replicate c.chunks.toNat (-1)), hr, ?_⟩
  rw [zero_ints]
  unfold newP; rw [g1]; rfl
def samePB (p q : Pool) : Bool := decide (p.mem = q.mem) && (decide (p.st = q.st) && decide (p.own = q.own))
theorem samePB_self (p : Pool) : samePB p p = true := by simp [samePB]
theorem samePB_iff {p q : Pool} : samePB p q = true ↔ p = q := by
  cases p; cases q; simp [samePB]
theorem c_samePool {p q : Pool} (h1 : p.mem.length ≤ M63) (h2 : p.st.length ≤ M63) (h3 : p.own.length ≤ M63) : CallD Try.prog F_laws_samePool [rPool p, rPool q] fun r _ => r = bS (samePB p q) := by
  refine k_laws_samePool ?_
  unfold vc_laws_samePool samePB
  exact ⟨_, c_same h1, fun g => ⟨_, c_sameInts h2, fun g' => ⟨_, c_sameInts h3, fun g'' => bS_eq (by rw [g, g', g'']; rfl), fun g'' => bS_eq (by rw [g'']; simp)⟩, fun g' => bS_eq (by rw [g']; simp)⟩, fun g => bS_eq (by rw [g]; simp)⟩

abbrev tCP (c : Conf) (p : Pool) : SV := .tup [.agg [iC c.chunks, iC c.size, iC c.slots, iC c.tax, iC c.slice, iC c.gens], .agg [.own (.sl 1 (byts p.mem)), .own (.sl 1 (ints p.st)), .own (.sl 1 (ints p.own))]]
def stepP (f : Int × Int → Int → Int × (Int × Int)) (c : Conf) (s : Nat × (Int × Int) × Pool) : Nat × (Int × Int) × Pool :=
  let r1 := f s.2.1 3
  let r2 := if r1.1 = 1 then f r1.2 c.slots else (0, r1.2)
  let r3 := if r1.1 = 0 then (0, r2.2) else f r2.2 c.size
  let r4 := if r1.1 = 0 then (0, r3.2) else f r3.2 256
  (s.1 + 1, r4.2, ⟨if r1.1 = 0 then s.2.2.mem else s.2.2.mem.set (IntKind.i64.wrap (IntKind.i64.wrap ((s.1 : Int) * c.size) + r3.1)).toNat (IntKind.u8.wrap r4.1), s.2.2.st.set s.1 r1.1, if r1.1 = 1 then s.2.2.own.set s.1 r2.1 else s.2.2.own⟩)
/-- The lengths of a pool. -/
structure PoolL (c : Conf) (p : Pool) : Prop where
  st : (p.st.length : Int) = c.chunks
  own : (p.own.length : Int) = c.chunks
  mem : (p.mem.length : Int) = c.chunks * c.size
theorem newP_L {c : Conf} (h : ConfG c) : PoolL c (newP c) := by
  have hg : c.good = true := Conf.good_iff.2 ⟨h.chunks, h.size, h.slots, h.tax, h.slice, h.gens⟩
  obtain ⟨hb, hb1, hb2⟩ := bytesOf_good hg
  have := h.chunks
  unfold newP
  rw [if_pos hg]
  constructor <;> simp only [List.length_replicate] <;> omega
set_option maxHeartbeats 4000000 in
theorem c_l4Draw {v : Value} {a : List Int} (ha : a.length ≤ M63) {i : Int} (hi : 0 ≤ i) (h : Int) :
    ∃ c p i' h', (ConfG c ∧ PoolL c p) ∧ 0 ≤ i' ∧ CallD Try.prog F_spec_l4Draw [Cur v a i h] fun r bs => r = tCP c p ∧ bs.getD 0 .dead = Cur v a i' h' := by
  obtain ⟨f, hf⟩ := dB (v := v) ha
  obtain ⟨c, i1, h1, hc, k1, c1⟩ := c_l3Conf (v := v) ha hi h
  obtain ⟨T, e0, es⟩ := iter_ex (stepP f c) (0, (i1, h1), newP c)
  have hck := hc.chunks
  have hsz := hc.size
  have hT : ∀ k, (T k).1 = k ∧ 0 ≤ (T k).2.1.1 ∧ PoolL c (T k).2.2 := fun k => by
    induction k with
    | zero => rw [e0]; exact ⟨rfl, k1, newP_L hc⟩
    | succ k ih =>
      obtain ⟨q1, q2, q3, q4, q5⟩ := ih
      rw [es]
      generalize T k = s at *
      have g1 := (hf s.2.1 3 q2).2.1
      unfold stepP
      refine ⟨by simp only [q1], ?_, ?_, ?_, ?_⟩
      · by_cases h0 : (f s.2.1 3).1 = 0
        · simp only [h0, if_true, show ¬ (0 : Int) = 1 by omega, if_false]; exact g1
        · by_cases h1 : (f s.2.1 3).1 = 1
          · simp only [h1, if_true, show ¬ (1 : Int) = 0 by omega, if_false]
            exact (hf _ _ (hf _ _ (hf _ _ g1).2.1).2.1).2.1
          · simp only [h0, h1, if_false]
            exact (hf _ _ (hf _ _ g1).2.1).2.1
      · simp only [List.length_set]; exact q3
      · simp only
        split <;> first | exact q4 | (rw [List.length_set]; exact q4)
      · simp only
        split <;> first | exact q5 | (rw [List.length_set]; exact q5)
  obtain ⟨N, hN⟩ := Int.eq_ofNat_of_zero_le (show 0 ≤ c.chunks by omega)
  refine ⟨c, (T N).2.2, (T N).2.1.1, (T N).2.1.2, ⟨hc, (hT N).2.2⟩, (hT N).2.1, k_spec_l4Draw ?_⟩
  unfold vc_spec_l4Draw
  refine ⟨_, _, _, _, _, _, _, _, rfl, c1, _, _, _, c_PoolNewS c, ?_⟩
  refine ⟨fun i h a b d n m => ∃ k : Nat, n = k ∧ k ≤ N ∧ m = N - k ∧ i = (T k).2.1.1 ∧ h = (T k).2.1.2 ∧ a = byts (T k).2.2.mem ∧ b = ints (T k).2.2.st ∧ d = ints (T k).2.2.own, ⟨N, rfl, rfl, 0, rfl, by omega, rfl, by rw [e0], by rw [e0], by rw [e0], by rw [e0], by rw [e0]⟩, ?_⟩
  rintro i h a' b d n m ⟨-, -, k, rfl, hk, rfl, rfl, rfl, rfl, rfl, rfl⟩
  obtain ⟨q1, q2, q3, q4, q5⟩ := hT k
  have hs := es k
  refine ⟨fun g => ?_, fun g => ?_⟩
  · have hlt : k < N := by simp at g; omega
    generalize T k = s at *
    obtain ⟨g1, j1, d1⟩ := hf s.2.1 3 q2
    have b0 : (0 : Int) ≤ k := by omega
    have b1 : (k : Int) < nI (DV.sl 1 (ints s.2.2.st)).n := by simp only [nI, n_ints]; omega
    have b2 : (k : Int) < nI (DV.sl 1 (ints s.2.2.own)).n := by simp only [nI, n_ints]; omega
    have b3 : (k : Int).toNat * 1 + 1 ≤ (DV.sl 1 (ints s.2.2.st)).es.length := by rw [es_sl, ints_length]; omega
    have b4 : (k : Int).toNat * 1 + 1 ≤ (DV.sl 1 (ints s.2.2.own)).es.length := by rw [es_sl, ints_length]; omega
    have wk : IntKind.i64.wrap ((k : Int) + 1) = ((k + 1 : Nat) : Int) := by rw [wrap_id] <;> omega
    have m0 : 0 ≤ (k : Int) * c.size := Int.mul_nonneg (by omega) (by omega)
    have m1 : ((k : Int) + 1) * c.size ≤ c.chunks * c.size := Int.mul_le_mul_of_nonneg_right (by omega) (by omega)
    have m2 : c.chunks * c.size ≤ 12 * 16 := Int.mul_le_mul hck.2 hsz.2 (by omega) (by omega)
    rw [Int.add_mul, Int.one_mul] at m1
    have at_ : ∀ x, 0 ≤ x ∧ (0 < c.size → x < c.size) ∧ (c.size ≤ 0 → x = 0) → (0 ≤ IntKind.i64.wrap (IntKind.i64.wrap ((k : Int) * c.size) + x) ∧ IntKind.i64.wrap (IntKind.i64.wrap ((k : Int) * c.size) + x) < nI (DV.sl 1 (byts s.2.2.mem)).n ∧ True ∧ (IntKind.i64.wrap (IntKind.i64.wrap ((k : Int) * c.size) + x)).toNat * 1 + 1 ≤ (DV.sl 1 (byts s.2.2.mem)).es.length) := fun x hx => by
      have := hx.2.1 (by omega)
      rw [wrap_id (n := (k : Int) * c.size) (by omega) (by omega), wrap_id (by omega) (by omega)]
      simp only [nI, n_byts, es_sl, byts_length]
      refine ⟨by omega, by omega, trivial, by omega⟩
    have hr : (f s.2.1 3).1 = 0 ∨ (f s.2.1 3).1 = 1 ∨ (f s.2.1 3).1 = 2 := by have := g1.2.1 (by omega); omega
    rcases hr with hr | hr | hr
    · refine ⟨_, _, _, rfl, d1, b0, b1, trivial, b3, fun g2 => absurd (of_decide_eq_true g2) (by omega), fun _ => ⟨fun g2 => by rw [hr] at g2; simp at g2, fun _ => ⟨⟨rfl, rfl, rfl⟩, N - (k + 1), by omega, rfl, rfl, k + 1, wk, by omega, rfl, ?_⟩⟩⟩
      rw [hs]
      unfold stepP
      simp only [hr, if_true, show ¬ (0 : Int) = 1 by omega, if_false, q1, Int.toNat_natCast, Nat.mul_one, set_ints]
      exact ⟨trivial, trivial, trivial, trivial, trivial⟩
    · obtain ⟨g2, j2, d2⟩ := hf (f s.2.1 3).2 c.slots j1
      obtain ⟨g3, j3, d3⟩ := hf (f (f s.2.1 3).2 c.slots).2 c.size j2
      obtain ⟨g4, j4, d4⟩ := hf (f (f (f s.2.1 3).2 c.slots).2 c.size).2 256 j3
      obtain ⟨p1, p2, p3, p4⟩ := at_ _ g3
      refine ⟨_, _, _, rfl, d1, b0, b1, trivial, b3, fun _ => ⟨_, _, _, rfl, d2, b0, b2, trivial, b4, fun _ => ⟨_, _, _, rfl, d3, _, _, _, rfl, d4, p1, p2, p3, p4, ⟨rfl, rfl, rfl⟩, N - (k + 1), by omega, rfl, rfl, k + 1, wk, by omega, rfl, ?_⟩, fun g5 => by rw [hr] at g5; simp at g5⟩, fun g5 => by rw [hr] at g5; simp at g5⟩
      rw [hs]
      unfold stepP
      simp only [hr, if_true, show ¬ (1 : Int) = 0 by omega, if_false, q1, Int.toNat_natCast, Nat.mul_one, set_ints, set_byts]
      exact ⟨trivial, trivial, trivial, trivial, trivial⟩
    · obtain ⟨g3, j3, d3⟩ := hf (f s.2.1 3).2 c.size j1
      obtain ⟨g4, j4, d4⟩ := hf (f (f s.2.1 3).2 c.size).2 256 j3
      obtain ⟨p1, p2, p3, p4⟩ := at_ _ g3
      refine ⟨_, _, _, rfl, d1, b0, b1, trivial, b3, fun g5 => by rw [hr] at g5; simp at g5, fun _ => ⟨fun _ => ⟨_, _, _, rfl, d3, _, _, _, rfl, d4, p1, p2, p3, p4, ⟨rfl, rfl, rfl⟩, N - (k + 1), by omega, rfl, rfl, k + 1, wk, by omega, rfl, ?_⟩, fun g5 => by rw [hr] at g5; simp at g5⟩⟩
      rw [hs]
      unfold stepP
      simp only [hr, show ¬ (2 : Int) = 0 by omega, show ¬ (2 : Int) = 1 by omega, if_false, q1, Int.toNat_natCast, Nat.mul_one, set_ints, set_byts]
      exact ⟨trivial, trivial, trivial, trivial, trivial⟩
  · have : k = N := by simp at g; omega
    subst this
    exact ⟨rfl, rfl⟩
end Go.Proofs.Ythmpdfmdhfgaaaa
