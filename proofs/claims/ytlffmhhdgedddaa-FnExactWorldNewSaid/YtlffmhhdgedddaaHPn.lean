/- Contracts of small functions: pools made new (the same lines as in HPp and HPq: for rounds with HQ). -/
import Derived.Test.YtlffmhhdgedddaaHQ
import Derived.Test.YtlffmhhdgedddaaVHPn
namespace Go.Proofs.Ytlffmhhdgedddaa
open Go Go.Proofs.Ytlffmhhdgedddaa.DL
set_option maxRecDepth 100000

theorem c_Zeros {n : Int} (h0 : 0 ≤ n) (h1 : n ≤ 4096) : CallD Try.prog F_impl_Zeros [iS n] fun r _ => r = oB (List.replicate n.toNat 0) := by
  refine k_impl_Zeros ?_
  unfold vc_impl_Zeros
  refine ⟨_, c_within n 0 4096, fun _ => ⟨rfl, h0, by simp only [nI]; omega, by omega, by omega, ?_⟩, fun g => absurd g (by rw [within_iff.2 ⟨h0, h1⟩]; simp)⟩
  rw [zero_byts]
theorem c_ZerosS {n : Int} (h0 : 0 ≤ n) (h1 : n ≤ 4096) : CallD Try.prog F_spec_Zeros [iS n] fun r _ => r = oB (List.replicate n.toNat 0) := by
  refine k_spec_Zeros ?_
  unfold vc_spec_Zeros
  refine ⟨_, c_l1In n 0 4096, fun _ => ⟨rfl, h0, by simp only [nI]; omega, by omega, by omega, ?_⟩, fun g => absurd g (by rw [within_iff.2 ⟨h0, h1⟩]; simp)⟩
  rw [zero_byts]
/-- A new pool. -/
def newP (c : Conf) : Pool := if c.good then ⟨List.replicate (bytesOf c).toNat 0, List.replicate c.chunks.toNat 0, List.replicate c.chunks.toNat (-1)⟩ else ⟨[], [], []⟩
theorem c_PoolNewS (c : Conf) : CallD Try.prog F_spec_PoolNew [confS c] fun r _ => r = oPool (newP c) := by
  refine k_spec_PoolNew ?_
  unfold vc_spec_PoolNew
  refine ⟨_, c_confOkS c, fun g1 => ?_, fun g1 => by unfold newP; rw [g1]; rfl⟩
  obtain ⟨hb, hb1, hb2⟩ := bytesOf_good g1
  obtain ⟨⟨h1, h2⟩, -⟩ := Conf.good_iff.1 g1
  refine ⟨_, c_BytesOfS c, byts (List.replicate (bytesOf c).toNat 0), c_ZerosS (by omega) (by omega), ?_⟩
  refine ⟨fun a b d i m => ∃ k : Nat, i = k ∧ (k : Int) ≤ c.chunks ∧ m = c.chunks.toNat - k ∧ a = byts (List.replicate (bytesOf c).toNat 0) ∧ b = ints (List.replicate k 0) ∧ d = ints (List.replicate k (-1)), ⟨_, 0, rfl, by omega, rfl, rfl, rfl, rfl⟩, ?_⟩
  rintro a b d i m ⟨k, rfl, hk, rfl, rfl, rfl, rfl⟩
  simp only [decide_eq_true_eq, decide_eq_false_iff_not, n_one, ints_length, List.length_replicate, List.length_singleton, ints_snoc]
  refine ⟨fun g => ⟨by omega, by omega, by omega, by omega, ⟨trivial, trivial⟩, c.chunks.toNat - (k + 1), by omega, k + 1, ?_, by omega, rfl, trivial, ?_, ?_⟩, fun g => ?_⟩
  · rw [wrap_id (by omega) (by omega)]; omega
  · rw [List.replicate_succ']
  · rw [List.replicate_succ']
  · have : k = c.chunks.toNat := by omega
    subst this
    unfold newP; rw [g1]; rfl
theorem c_Mul (n : Nat) (h : n ≤ 12) : CallD Try.prog F_math_bits_Mul [oneC (.sc (.int .u64 1)), oneC (.sc (.int .u64 (n : Int)))] fun r _ => r = .tup [.cell (.sc (.int .u64 0)), .cell (.sc (.int .u64 (n : Int)))] := by
  have h64 : CallD Try.prog F_math_bits_Mul64 [oneC (.sc (.int .u64 1)), oneC (.sc (.int .u64 (n : Int)))] fun r _ => r = .tup [.cell (.sc (.int .u64 0)), .cell (.sc (.int .u64 (n : Int)))] := by
    refine k_math_bits_Mul64 ?_
    unfold vc_math_bits_Mul64
    refine ⟨by omega, by omega, by omega, by omega, by omega, ?_⟩
    have : n = 0 ∨ n = 1 ∨ n = 2 ∨ n = 3 ∨ n = 4 ∨ n = 5 ∨ n = 6 ∨ n = 7 ∨ n = 8 ∨ n = 9 ∨ n = 10 ∨ n = 11 ∨ n = 12 := by omega
    rcases this with rfl | rfl | rfl | rfl | rfl | rfl | rfl | rfl | rfl | rfl | rfl | rfl | rfl <;> (show (_ : SV) = _; kernel_rfl)
  refine k_math_bits_Mul ?_
  unfold vc_math_bits_Mul
  exact ⟨_, _, h64, rfl⟩
theorem rep_set (a b : Nat) (x y : Int) (h : a ≤ b) : overlay (ints (List.replicate a x ++ List.replicate b y)) a (ints (List.replicate a x)) = ints (List.replicate (a + a) x ++ List.replicate (b - a) y) := by
  unfold overlay
  rw [← ints_app, setRange_eq _ _ _ (by simp [ints]; omega)]
  simp only [ints, List.map_replicate, List.length_replicate]
  rw [List.take_append_of_le_length (by simp), List.take_of_length_le (by simp), List.drop_append, List.drop_of_length_le (by simp)]
  simp only [List.length_replicate, List.nil_append, List.drop_replicate, List.map_append, List.map_replicate]
  rw [← List.append_assoc, List.replicate_append_replicate, show a + a - a = a by omega]
theorem rep_setq (a b q : Nat) (x y : Int) (h : q ≤ b) : overlay (ints (List.replicate a x ++ List.replicate b y)) a (ints (List.replicate q x)) = ints (List.replicate (a + q) x ++ List.replicate (b - q) y) := by
  unfold overlay
  rw [← ints_app, setRange_eq _ _ _ (by simp [ints]; omega)]
  simp only [ints, List.map_replicate, List.length_replicate]
  rw [List.take_append_of_le_length (by simp), List.take_of_length_le (by simp), List.drop_append, List.drop_of_length_le (by simp)]
  simp only [List.length_replicate, List.nil_append, List.drop_replicate, List.map_append, List.map_replicate]
  rw [← List.append_assoc, List.replicate_append_replicate, show a + q - a = q by omega]
theorem c_Repeat (N : Nat) (h : N ≤ 12) : CallD Try.prog F_slices_Repeat_int [rI [-1], iS (N : Int)] fun r _ => r = oI (List.replicate N (-1)) := by
  refine k_slices_Repeat_int ?_
  unfold vc_slices_Repeat_int
  have e1 : IntKind.u64.wrap (nI (DV.sl 1 (ints [-1])).n) = 1 := by kernel_rfl
  have e2 : IntKind.u64.wrap (N : Int) = N := by rw [wrapU]; omega
  have e3 : IntKind.i64.wrap (N : Int) = N := wrap_id (by omega) (by omega)
  rw [e1, e2]
  refine ⟨fun g => by simp at g; omega, fun _ => ⟨0, N, c_Mul N h, fun g => by simp at g, fun _ => ⟨fun g => by simp at g; omega, fun _ => ?_⟩⟩⟩
  rw [e3]
  refine ⟨rfl, by omega, by simp only [nI]; omega, by omega, by omega, AllVal_ints _, trivial, by simp [es_sl]; omega, ?_⟩
  refine ⟨fun es i m => ∃ k : Nat, i = k ∧ k ≤ N ∧ (0 < k ∨ N = 0) ∧ m = N - k ∧ es = ints (List.replicate k (-1) ++ List.replicate (N - k) 0), ⟨N - min N 1, min N 1, ?_, by omega, by omega, rfl, ?_⟩, ?_⟩
  · simp [nI, ints]
  · rw [Int.toNat_natCast, zero_ints]
    have := rep_setq 0 N (min N 1) (-1) 0 (by omega)
    simp only [List.replicate_zero, List.nil_append, Nat.zero_add] at this
    rw [← this]
    congr 1
    rw [ints_length, ints_length, List.length_replicate, List.length_singleton, take_ints]
    by_cases hN : N = 0
    · subst hN; rfl
    · rw [show min N 1 = 1 by omega]; rfl
  · rintro es i m ⟨k, rfl, hk, hk0, rfl, rfl⟩
    have hlen : (List.replicate k (-1 : Int) ++ List.replicate (N - k) 0).length = N := by simp; omega
    simp only [n_ints, hlen, nI, Option.getD_some, Int.toNat_natCast, Nat.mul_one, Int.toNat_zero, List.drop_zero, take_ints, drop_ints, ints_length, List.length_take, List.length_drop, decide_eq_true_eq, decide_eq_false_iff_not, es_sl, Nat.min_self]
    have et : List.take k (List.replicate k (-1 : Int) ++ List.replicate (N - k) 0) = List.replicate k (-1) := by
      rw [List.take_append_of_le_length (by simp), List.take_of_length_le (by simp)]
    rw [et]
    simp only [List.take_replicate]
    have em : min k N = k := by omega
    refine ⟨fun g => ⟨by omega, by omega, by omega, by omega, by omega, by omega, AllVal_ints _, trivial, by omega, trivial, N - (k + min (N - k) k), by omega, k + min (N - k) k, ?_, by omega, by omega, by omega, ?_⟩, fun g => ?_⟩
    · rw [em, wrap_id (by omega) (by omega)]; omega
    · rw [em, show min (min (N - k) k) k = min (N - k) k by omega, rep_setq k (N - k) _ (-1) 0 (by omega)]
      congr 3
      omega
    · have : k = N := by omega
      subst this
      simp
theorem c_PoolNew (c : Conf) : CallD Try.prog F_impl_PoolNew [confS c] fun r _ => r = oPool (newP c) := by
  refine k_impl_PoolNew ?_
  unfold vc_impl_PoolNew
  refine ⟨_, c_confOk c, fun g1 => ?_, fun g1 => by unfold newP; rw [g1]; rfl⟩
  obtain ⟨hb, hb1, hb2⟩ := bytesOf_good g1
  obtain ⟨⟨h1, h2⟩, -⟩ := Conf.good_iff.1 g1
  have hr := c_Repeat c.chunks.toNat (by omega)
  rw [show ((c.chunks.toNat : Nat) : Int) = c.chunks by omega] at hr
  refine ⟨_, c_BytesOf c, byts (List.replicate (bytesOf c).toNat 0), c_Zeros (by omega) (by omega), rfl, by omega, by simp only [nI]; omega, by omega, by omega, ints (List.replicate c.chunks.toNat (-1)), hr, ?_⟩
  rw [zero_ints]
  unfold newP; rw [g1]; rfl
end Go.Proofs.Ytlffmhhdgedddaa
