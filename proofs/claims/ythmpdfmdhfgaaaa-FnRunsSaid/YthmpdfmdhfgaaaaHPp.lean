/- Contracts of small functions: pools, counted, copied, made new. -/
import Derived.Test.YthmpdfmdhfgaaaaHPo
import Derived.Test.YthmpdfmdhfgaaaaVHPp
namespace Go.Proofs.Ythmpdfmdhfgaaaa
open Go Go.Proofs.Ythmpdfmdhfgaaaa.DL
set_option maxRecDepth 100000

def cntN (l : List Int) (b : Int) (k : Nat) : Nat := (l.take k).count b
theorem cnt_step {l : List Int} {b : Int} {k : Nat} (h : k < l.length) : cntN l b (k + 1) = cntN l b k + if l.getD k 0 = b then 1 else 0 := by
  unfold cntN
  rw [List.take_succ_eq_append_getElem h, List.count_append, List.count_singleton, getD_eq h]
  simp only [beq_iff_eq]
theorem cnt_le (l : List Int) (b : Int) (k : Nat) : cntN l b k ≤ k := Nat.le_trans List.count_le_length (by simp; omega)
theorem c_CountOf {p : Pool} (hp : p.st.length ≤ 1048576) (b : Int) : CallD Try.prog F_impl_CountOf [rPool p, iS b] fun r _ => r = iS (p.st.count b : Nat) := by
  refine k_impl_CountOf ?_
  unfold vc_impl_CountOf
  simp only [nI, n_ints]
  refine ⟨fun n i m => ∃ k : Nat, i = k ∧ k ≤ p.st.length ∧ m = p.st.length - k ∧ n = (cntN p.st b k : Nat), ⟨_, 0, rfl, Nat.zero_le _, rfl, rfl⟩, ?_⟩
  rintro n i m ⟨k, rfl, hk, rfl, rfl⟩
  have hle := cnt_le p.st b k
  simp only [Int.toNat_natCast, Nat.mul_one, decide_eq_true_eq (p := (k : Int) < p.st.length), decide_eq_false_iff_not (p := (k : Int) < p.st.length)]
  refine ⟨fun h1 => ?_, fun h1 => iS_eq ?_⟩
  · have ha : k < p.st.length := by omega
    have hs := cnt_step (b := b) ha
    simp only [hd_ints ha, isI_iV, asI_iV, wrap_id (n := (k : Int) + 1) (by omega) (by omega), wrap_id (n := ((cntN p.st b k : Nat) : Int) + 1) (by omega) (by omega), decide_eq_true_eq, decide_eq_false_iff_not]
    refine ⟨by omega, by omega, by simp [ints]; omega, trivial, fun h2 => ⟨⟨trivial, trivial, trivial⟩, p.st.length - (k + 1), by omega, k + 1, by omega, by omega, rfl, ?_⟩, fun h2 => ⟨⟨trivial, trivial, trivial⟩, p.st.length - (k + 1), by omega, k + 1, by omega, by omega, rfl, ?_⟩⟩
    · rw [if_pos h2] at hs; omega
    · rw [if_neg h2] at hs; omega
  · have : k = p.st.length := by omega
    subst this
    unfold cntN; rw [List.take_length]
theorem c_CountOfS {p : Pool} (hp : p.st.length ≤ 1048576) (b : Int) : CallD Try.prog F_spec_CountOf [rPool p, iS b] fun r _ => r = iS (p.st.count b : Nat) := by
  refine k_spec_CountOf ?_
  unfold vc_spec_CountOf
  simp only [nI, n_ints]
  refine ⟨fun n i m => ∃ k : Nat, i = k ∧ k ≤ p.st.length ∧ m = p.st.length - k ∧ n = (cntN p.st b k : Nat), ⟨_, 0, rfl, Nat.zero_le _, rfl, rfl⟩, ?_⟩
  rintro n i m ⟨k, rfl, hk, rfl, rfl⟩
  have hle := cnt_le p.st b k
  simp only [Int.toNat_natCast, Nat.mul_one, decide_eq_true_eq (p := (k : Int) < p.st.length), decide_eq_false_iff_not (p := (k : Int) < p.st.length)]
  refine ⟨fun h1 => ?_, fun h1 => iS_eq ?_⟩
  · have ha : k < p.st.length := by omega
    have hs := cnt_step (b := b) ha
    simp only [hd_ints ha, isI_iV, asI_iV, wrap_id (n := (k : Int) + 1) (by omega) (by omega), wrap_id (n := ((cntN p.st b k : Nat) : Int) + 1) (by omega) (by omega), decide_eq_true_eq, decide_eq_false_iff_not]
    refine ⟨by omega, by omega, by simp [ints]; omega, trivial, fun h2 => ⟨⟨trivial, trivial⟩, p.st.length - (k + 1), by omega, k + 1, by omega, by omega, rfl, ?_⟩, fun h2 => ⟨⟨trivial, trivial⟩, p.st.length - (k + 1), by omega, k + 1, by omega, by omega, rfl, ?_⟩⟩
    · rw [if_pos h2] at hs; omega
    · rw [if_neg h2] at hs; omega
  · have : k = p.st.length := by omega
    subst this
    unfold cntN; rw [List.take_length]
def freeN (p : Pool) : Int := idx (fun y => decide (0 = y)) p.st
theorem c_FirstFree {p : Pool} (hp : p.st.length ≤ M63) : CallD Try.prog F_impl_FirstFree [rPool p] fun r _ => r = iS (freeN p) := by
  refine k_impl_FirstFree ?_
  unfold vc_impl_FirstFree
  exact ⟨_, c_Index hp 0, rfl⟩
theorem c_FirstFreeS {p : Pool} (hp : p.st.length ≤ M63) : CallD Try.prog F_spec_FirstFree [rPool p] fun r _ => r = iS (freeN p) := by
  refine k_spec_FirstFree ?_
  unfold vc_spec_FirstFree
  unfold M63 at hp
  simp only [nI, n_ints]
  refine ⟨fun i m => ∃ k : Nat, i = k ∧ k ≤ p.st.length ∧ m = p.st.length - k ∧ ∀ j (hj : j < p.st.length), j < k → decide (0 = p.st[j]) = false, ⟨p.st.length, 0, rfl, Nat.zero_le _, rfl, fun j hj h => by omega⟩, ?_⟩
  rintro i m ⟨k, rfl, hk, rfl, ht⟩
  simp only [Int.toNat_natCast, Nat.mul_one, decide_eq_true_eq (p := (k : Int) < p.st.length), decide_eq_false_iff_not (p := (k : Int) < p.st.length)]
  refine ⟨fun h1 => ?_, fun h1 => iS_eq ?_⟩
  · have ha' : k < p.st.length := by omega
    simp only [hd_ints ha', getD_eq ha', isI_iV, asI_iV, wrap_id (n := (k : Int) + 1) (by omega) (by omega)]
    refine ⟨by omega, by omega, by simp [ints]; omega, trivial, fun h2 => iS_eq ?_, fun h2 => ⟨trivial, p.st.length - (k + 1), by omega, k + 1, by omega, by omega, rfl, fun j hj hjk => ?_⟩⟩
    · exact (idx_at (p := fun y => decide (0 = y)) ha' (by simp at h2; simp [h2]) fun j hj => ht j (by omega) hj).symm
    · by_cases e : j = k
      · subst e; simp at h2; simp; omega
      · exact ht j hj (by omega)
  · exact (idx_none (p := fun y => decide (0 = y)) fun j hj => ht j hj (by omega)).symm
theorem poolOk_S {c : Conf} {p : Pool} (h : poolOkB c p = true) : c.good = true ∧ PoolS c p c.size.toNat ∧ ∀ k, k < p.st.length → okAt c p k = true := by
  unfold poolOkB at h
  simp only [Bool.and_eq_true, decide_eq_true_eq, List.all_eq_true, List.mem_range] at h
  exact ⟨h.1, poolS_of h.1 h.2.1 h.2.2.1 h.2.2.2.1, h.2.2.2.2⟩
def chunkR (c : Conf) (p : Pool) (k : Int) : List Int := if poolOkB c p && within k 0 (IntKind.i64.wrap (c.chunks - 1)) then chunkL c p.mem k.toNat else []
theorem chunk_in {c : Conf} {p : Pool} (h : poolOkB c p = true) {k : Int} (hk : within k 0 (IntKind.i64.wrap (c.chunks - 1)) = true) : k = (k.toNat : Int) ∧ k.toNat < p.st.length := by
  obtain ⟨h1, h2, -⟩ := poolOk_S h
  have := h2.st
  have hn := h2.n
  rw [within_iff, wrap_id (n := c.chunks - 1) (by omega) (by omega)] at hk
  omega
theorem chunkR_le (c : Conf) (p : Pool) (k : Int) : (chunkR c p k).length ≤ p.mem.length := by
  unfold chunkR
  split
  · exact chunkL_le ..
  · simp
theorem c_ChunkBytes (c : Conf) {p : Pool} (hp : p.mem.length ≤ 1048576) (k : Int) : CallD Try.prog F_impl_ChunkBytes [confS c, rPool p, iS k] fun r _ => r = oB (chunkR c p k) := by
  refine k_impl_ChunkBytes ?_
  unfold vc_impl_ChunkBytes
  refine ⟨_, c_PoolOk c p, fun g1 => ⟨_, c_within k 0 _, fun g2 => ?_, fun g2 => ?_⟩, fun g1 => ?_⟩
  · obtain ⟨e, hk⟩ := chunk_in g1 g2
    obtain ⟨-, hS, -⟩ := poolOk_S g1
    have hbd := hS.bd hk
    have hch := hS.chunk hk
    rw [← e] at hch
    refine ⟨_, _, hbd, hch, byts (chunkL c p.mem k.toNat), ?_, ?_⟩
    · rw [hS.cut (k := k.toNat)]
      exact c_cloneB (Nat.le_trans (chunkL_le ..) hp)
    · unfold chunkR; rw [g1, g2]; rfl
  · unfold chunkR; rw [g1, g2]; rfl
  · unfold chunkR; rw [g1]; rfl
theorem c_ChunkBytesS (c : Conf) {p : Pool} (hp : p.mem.length ≤ 1048576) (k : Int) : CallD Try.prog F_spec_ChunkBytes [confS c, rPool p, iS k] fun r _ => r = oB (chunkR c p k) := by
  refine k_spec_ChunkBytes ?_
  unfold vc_spec_ChunkBytes
  refine ⟨_, c_PoolOkS c p, fun g1 => ⟨_, c_l1In k 0 _, fun g2 => ?_, fun g2 => ?_⟩, fun g1 => ?_⟩
  · obtain ⟨e, hk⟩ := chunk_in g1 g2
    obtain ⟨-, hS, -⟩ := poolOk_S g1
    have hbd := hS.bd hk
    obtain ⟨w1, w2, -, -⟩ := hS.lo hk
    rw [← e] at w1 w2
    rw [w1, w2, hS.cut (k := k.toNat)]
    have hl := chunkL_le c p.mem k.toNat
    refine ⟨hbd.1, hbd.2.1, hbd.2.2, AllVal_byts _, ?_, ?_, ?_⟩
    · simp only [n_one, byts_length, List.length_nil, Nat.zero_add]; omega
    · simp only [n_one, byts_length, List.length_nil, Nat.zero_add]; omega
    · unfold chunkR; rw [g1, g2]; rfl
  · unfold chunkR; rw [g1, g2]; rfl
  · unfold chunkR; rw [g1]; rfl
theorem c_Zeros {n : Int} (h0 : 0 ≤ n) (h1 : n ≤ 4096) : CallD Try.prog F_impl_Zeros [iS n] fun r _ => r = oB (List.replicate n.toNat 0) := by
  refine k_impl_Zeros ?_
  unfold vc_impl_Zeros
  refine ⟨_, c_within n 0 4096, fun _ => ⟨rfl, h0, by simp only [nI]; omega, by omega, by omega, ?_⟩, fun g => absurd g (by rw [within_iff.2 ⟨h0, h1⟩]; simp)⟩
  rw [zero_byts]
theorem c_ZerosS {n : Int} (h0 : 0 ≤ n) (h1 : n ≤ 4096) : CallD Try.prog F_spec_Zeros [iS n] fun r _ => r = oB (List.replicate n.toNat 0) := by
  refine k_spec_Zeros ?_
  unfold vc_spec_Zeros
  refine ⟨_, c_l1In n 0 4096, fun _ => ⟨rfl, h0, by simp only [nI]; omega, by omega, by omega, ?_⟩, fun g => absurd g (by rw [within_iff.2 ⟨h0, h1⟩]; simp)⟩
  rw [zero_byts]
/-- A new pool. -/
def newP (c : Conf) : Pool := if c.good then ⟨List.replicate (bytesOf c).toNat 0, List.replicate c.chunks.toNat 0, List.replicate c.chunks.toNat (-1)⟩ else ⟨[], [], []⟩
theorem c_PoolNewS (c : Conf) : CallD Try.prog F_spec_PoolNew [confS c] fun r _ => r = oPool (newP c) := by
  refine k_spec_PoolNew ?_
  unfold vc_spec_PoolNew
  refine ⟨_, c_confOkS c, fun g1 => ?_, fun g1 => by unfold newP; rw [g1]; rfl⟩
  obtain ⟨hb, hb1, hb2⟩ := bytesOf_good g1
  obtain ⟨⟨h1, h2⟩, -⟩ := Conf.good_iff.1 g1
  refine ⟨_, c_BytesOfS c, byts (List.replicate (bytesOf c).toNat 0), c_ZerosS (by omega) (by omega), ?_⟩
  refine ⟨fun a b d i m => ∃ k : Nat, i = k ∧ (k : Int) ≤ c.chunks ∧ m = c.chunks.toNat - k ∧ a = byts (List.replicate (bytesOf c).toNat 0) ∧ b = ints (List.replicate k 0) ∧ d = ints (List.replicate k (-1)), ⟨_, 0, rfl, by omega, rfl, rfl, rfl, rfl⟩, ?_⟩
  rintro a b d i m ⟨k, rfl, hk, rfl, rfl, rfl, rfl⟩
  simp only [decide_eq_true_eq, decide_eq_false_iff_not, n_one, ints_length, List.length_replicate, List.length_singleton, ints_snoc]
  refine ⟨fun g => ⟨by omega, by omega, by omega, by omega, ⟨trivial, trivial⟩, c.chunks.toNat - (k + 1), by omega, k + 1, ?_, by omega, rfl, trivial, ?_, ?_⟩, fun g => ?_⟩
  · rw [wrap_id (by omega) (by omega)]; omega
  · rw [List.replicate_succ']
  · rw [List.replicate_succ']
  · have : k = c.chunks.toNat := by omega
    subst this
    unfold newP; rw [g1]; rfl
theorem c_Mul (n : Nat) (h : n ≤ 12) : CallD Try.prog F_math_bits_Mul [oneC (.sc (.int .u64 1)), oneC (.sc (.int .u64 (n : Int)))] fun r _ => r = .tup [.cell (.sc (.int .u64 0)), .cell (.sc (.int .u64 (n : Int)))] := by
  have h64 : CallD Try.prog F_math_bits_Mul64 [oneC (.sc (.int .u64 1)), oneC (.sc (.int .u64 (n : Int)))] fun r _ => r = .tup [.cell (.sc (.int .u64 0)), .cell (.sc (.int .u64 (n : Int)))] := by
    refine k_math_bits_Mul64 ?_
    unfold vc_math_bits_Mul64
    refine ⟨by omega, by omega, by omega, by omega, by omega, ?_⟩
    have : n = 0 ∨ n = 1 ∨ n = 2 ∨ n = 3 ∨ n = 4 ∨ n = 5 ∨ n = 6 ∨ n = 7 ∨ n = 8 ∨ n = 9 ∨ n = 10 ∨ n = 11 ∨ n = 12 := by omega
    rcases this with rfl | rfl | rfl | rfl | rfl | rfl | rfl | rfl | rfl | rfl | rfl | rfl | rfl <;> (show (_ : SV) = _; kernel_rfl)
  refine k_math_bits_Mul ?_
  unfold vc_math_bits_Mul
  exact ⟨_, _, h64, rfl⟩
theorem rep_set (a b : Nat) (x y : Int) (h : a ≤ b) : overlay (ints (List.replicate a x ++ List.replicate b y)) a (ints (List.replicate a x)) = ints (List.replicate (a + a) x ++ List.replicate (b - a) y) := by
  unfold overlay
  rw [← ints_app, setRange_eq _ _ _ (by simp [ints]; omega)]
  simp only [ints, List.map_replicate, List.length_replicate]
  rw [List.take_append_of_le_length (by simp), List.take_of_length_le (by simp), List.drop_append, List.drop_of_length_le (by simp)]
  simp only [List.length_replicate, List.nil_append, List.drop_replicate, List.map_append, List.map_replicate]
  rw [← List.append_assoc, List.replicate_append_replicate, show a + a - a = a by omega]
end Go.Proofs.Ythmpdfmdhfgaaaa
