/- Contracts of small functions: chunks let go and wiped. -/
import Derived.Test.YthmpdfmdhfgaaaaHPr
import Derived.Test.YthmpdfmdhfgaaaaVHWp
namespace Go.Proofs.Ythmpdfmdhfgaaaa
open Go Go.Proofs.Ythmpdfmdhfgaaaa.DL
set_option maxRecDepth 100000

/-- A pool that can be copied. -/
structure PoolC (p : Pool) : Prop where
  mem : p.mem.length ≤ 1048576
  st : p.st.length ≤ 1048576
  own : p.own.length ≤ 1048576
theorem PoolD.c {p : Pool} (h : PoolD p) : PoolC p := by
  obtain ⟨h1, h2, h3⟩ := h
  exact ⟨by omega, by omega, by omega⟩
theorem c_copyPoolC {p : Pool} (h : PoolC p) : CallD Try.prog F_impl_copyPool [rPool p] fun r _ => r = oPool p := by
  refine k_impl_copyPool ?_
  unfold vc_impl_copyPool
  exact ⟨_, c_cloneB h.mem, _, c_cloneI h.st, _, c_cloneI h.own, rfl⟩
theorem c_l4CopyC {p : Pool} (h : PoolC p) : CallD Try.prog F_spec_l4Copy [rPool p] fun r _ => r = oPool p := by
  obtain ⟨h1, h2, h3⟩ := h
  refine k_spec_l4Copy ?_
  unfold vc_spec_l4Copy
  simp only [ints_length, byts_length, n_one, List.length_nil, List.nil_append]
  exact ⟨AllVal_byts _, by omega, by omega, AllVal_ints _, by omega, by omega, AllVal_ints _, by omega, by omega, by trivial⟩
def goB (p : Pool) (k : Int) : Bool := decide (0 ≤ k) && (decide (k < poolN p) && decide (p.st.getD k.toNat 0 = 1))
def goP (p : Pool) (k : Int) : Pool := if goB p k then { p with st := p.st.set k.toNat 2, own := p.own.set k.toNat (-1) } else p
theorem goP_no {p : Pool} {k : Int} (h : goB p k = false) : oPool p = oPool (goP p k) := by unfold goP; rw [h]; rfl
theorem goP_yes {p : Pool} {k : Int} (h : goB p k = true) : aS [.own (.sl 1 (byts p.mem)), .own (.sl 1 ((ints p.st).set (k.toNat * 1) (iV 2))), .own (.sl 1 ((ints p.own).set (k.toNat * 1) (iV (-1))))] = oPool (goP p k) := by
  unfold goP; rw [h, Nat.mul_one, set_ints, set_ints]; rfl
theorem c_LetGo {p : Pool} (hp : PoolC p) (k : Int) : CallD Try.prog F_impl_LetGo [rPool p, iS k] fun r _ => r = oPool (goP p k) := by
  obtain ⟨h1, h2, h3⟩ := hp
  refine k_impl_LetGo ?_
  unfold vc_impl_LetGo
  simp only [nI, n_ints, Bool.false_eq_true, if_false]
  have em : (if (p.own.length : Int) < p.st.length then (p.own.length : Int) else p.st.length) = ((poolN p : Nat) : Int) := by unfold poolN; split <;> omega
  simp only [em]
  have hM : poolN p ≤ p.st.length ∧ poolN p ≤ p.own.length := by unfold poolN; omega
  rw [wrap_id (n := ((poolN p : Nat) : Int) - 1) (by omega) (by omega)]
  refine ⟨_, _, _, c_copyPoolC ⟨h1, h2, h3⟩, _, c_within k 0 _, fun g => ?_, fun g => goP_no ?_⟩
  · rw [within_iff] at g
    have ha : k.toNat < p.st.length := by omega
    simp only [Nat.mul_one, hd_ints ha, isI_iV, asI_iV, es_sl, ints_length, n_ints]
    refine ⟨by omega, by omega, by simp [ints]; omega, trivial, fun g2 => ⟨by omega, by omega, trivial, by omega, by omega, by omega, trivial, by omega, ?_⟩, fun g2 => goP_no ?_⟩
    · have := goP_yes (p := p) (k := k) (by unfold goB; rw [g2, decide_eq_true g.1, decide_eq_true (show k < (poolN p : Nat) by omega)]; rfl)
      rwa [Nat.mul_one] at this
    · unfold goB; rw [g2]; simp
  · rw [within_false] at g
    unfold goB
    by_cases h0 : 0 ≤ k
    · rw [decide_eq_false (show ¬ k < (poolN p : Nat) by omega)]; simp
    · rw [decide_eq_false h0]; rfl
theorem c_LetGoS {p : Pool} (hp : PoolC p) (k : Int) : CallD Try.prog F_spec_LetGo [rPool p, iS k] fun r _ => r = oPool (goP p k) := by
  obtain ⟨h1, h2, h3⟩ := hp
  refine k_spec_LetGo ?_
  unfold vc_spec_LetGo
  simp only [nI, n_ints]
  have hM : (poolN p = p.st.length ∧ p.st.length ≤ p.own.length) ∨ (poolN p = p.own.length ∧ p.own.length ≤ p.st.length) := by unfold poolN; omega
  rw [wrap_id (n := (p.st.length : Int) - 1) (by omega) (by omega)]
  refine ⟨_, _, _, c_l4CopyC ⟨h1, h2, h3⟩, _, c_l1In k 0 _, fun g => ⟨fun g1 => ?_, fun g1 => goP_no ?_⟩, fun g => goP_no ?_⟩
  · rw [within_iff] at g
    have g1 := of_decide_eq_true g1
    have ha : k.toNat < p.st.length := by omega
    simp only [Nat.mul_one, hd_ints ha, isI_iV, asI_iV, es_sl, ints_length, n_ints]
    refine ⟨by omega, by omega, by simp [ints]; omega, trivial, fun g2 => ⟨by omega, by omega, trivial, by omega, by omega, by omega, trivial, by omega, ?_⟩, fun g2 => goP_no ?_⟩
    · have := goP_yes (p := p) (k := k) (by unfold goB; rw [g2, decide_eq_true g.1, decide_eq_true (show k < (poolN p : Nat) by omega)]; rfl)
      rwa [Nat.mul_one] at this
    · unfold goB; rw [g2]; simp
  · have g1 := of_decide_eq_false g1
    unfold goB
    rw [decide_eq_false (show ¬ k < (poolN p : Nat) by omega)]; simp
  · rw [within_false] at g
    unfold goB
    by_cases h0 : 0 ≤ k
    · rw [decide_eq_false (show ¬ k < (poolN p : Nat) by omega)]; simp
    · rw [decide_eq_false h0]; rfl
/-- Bytes of which some are wiped. -/
def wipeL (l : List Int) (a n : Nat) : List Int := l.take a ++ (List.replicate (min n (l.length - a)) 0 ++ l.drop (a + n))
theorem wipe_step {l : List Int} {a k : Nat} (h : a + k < l.length) : (l.take a ++ (List.replicate k 0 ++ l.drop (a + k))).set (a + k) 0 = l.take a ++ (List.replicate (k + 1) 0 ++ l.drop (a + (k + 1))) := by
  rw [List.drop_eq_getElem_cons h, List.set_append_right _ _ (by simp; omega), List.set_append_right _ _ (by simp; omega), List.replicate_succ', List.append_assoc]
  have e : a + k - (List.take a l).length - (List.replicate k (0 : Int)).length = 0 := by simp; omega
  rw [e]
  rfl
theorem wipeL_length (l : List Int) (a n : Nat) : (wipeL l a n).length = l.length := by unfold wipeL; simp; omega
def wipeI (l : List Int) (a n : Int) : List Int := if a < 0 ∨ n < 0 then l else wipeL l a.toNat n.toNat
theorem c_WipeS {l : List Int} (hl : l.length ≤ 1048576) {a n : Int} (ha : I64 a) : CallD Try.prog F_spec_Wipe [rB l, iS a, iS n] fun r _ => r = oB (wipeI l a n) := by
  unfold I64 at ha
  refine k_spec_Wipe ?_
  unfold vc_spec_Wipe
  simp only [n_one, byts_length, List.length_nil, List.nil_append, nI]
  refine ⟨AllVal_byts _, by omega, by omega, fun g => ?_, fun g => ⟨fun g2 => ?_, fun g2 => ?_⟩⟩
  · unfold wipeI; rw [if_pos (.inl (of_decide_eq_true g))]
  · unfold wipeI; rw [if_pos (.inr (of_decide_eq_true g2))]
  have g := of_decide_eq_false g
  have g2 := of_decide_eq_false g2
  have e : wipeI l a n = wipeL l a.toNat n.toNat := by unfold wipeI; rw [if_neg (by omega)]
  obtain ⟨A, rfl⟩ := Int.eq_ofNat_of_zero_le (show 0 ≤ a by omega)
  obtain ⟨N, rfl⟩ := Int.eq_ofNat_of_zero_le (show 0 ≤ n by omega)
  simp only [Int.toNat_natCast] at e
  rw [e]
  refine ⟨fun es i m => ∃ k : Nat, i = ((A + k : Nat) : Int) ∧ k ≤ N ∧ (A + k ≤ l.length ∨ k = 0) ∧ m = l.length - k ∧ es = byts (l.take A ++ (List.replicate k 0 ++ l.drop (A + k))), ⟨_, 0, by omega, by omega, .inr rfl, rfl, by simp⟩, ?_⟩
  rintro es i m ⟨k, rfl, hk, hk2, rfl, rfl⟩
  have ww : A + k ≤ 2000000 ∨ l.length < A + k := by omega
  have wk : IntKind.i64.wrap (((A + k : Nat) : Int) - ((A : Nat) : Int)) = (k : Int) := by
    rw [show ((A + k : Nat) : Int) - ((A : Nat) : Int) = (k : Int) by omega, wrap_id (by omega) (by omega)]
  have hle : (l.take A ++ (List.replicate k 0 ++ l.drop (A + k))).length = l.length ∨ l.length < A + k := by simp; omega
  simp only [wk, decide_eq_true_eq, decide_eq_false_iff_not, es_sl, byts_length, Int.toNat_natCast, Nat.mul_one, set_byts]
  refine ⟨fun g3 => ⟨fun g4 => ?_, fun g4 => ?_⟩, fun g3 => ?_⟩
  · have hlt : A + k < l.length := by omega
    refine ⟨by omega, by omega, trivial, by omega, ⟨trivial, trivial, trivial⟩, l.length - (k + 1), by omega, k + 1, ?_, by omega, .inl (by omega), rfl, ?_⟩
    · rw [wrap_id] <;> omega
    · rw [wipe_step hlt]
  · have : k = N := by omega
    subst this
    unfold wipeL
    rw [show min k (l.length - A) = k by omega]
  · unfold wipeL
    by_cases h : k = 0
    · subst h
      rw [show min N (l.length - A) = 0 by omega, List.drop_of_length_le (show l.length ≤ A + 0 by omega), List.drop_of_length_le (show l.length ≤ A + N by omega)]
    · rw [show min N (l.length - A) = k by omega, List.drop_of_length_le (show l.length ≤ A + k by omega), List.drop_of_length_le (show l.length ≤ A + N by omega)]
theorem c_Least (a b : Int) : CallD Try.prog F_spec_Least [iS a, iS b] fun r _ => r = iS (if b < a then b else a) := by
  refine k_spec_Least ?_
  unfold vc_spec_Least
  exact ⟨fun g => iS_eq (by rw [if_pos (of_decide_eq_true g)]), fun g => iS_eq (by rw [if_neg (of_decide_eq_false g)])⟩
theorem c_DrawLetGo {v : Value} {a : List Int} (ha : a.length ≤ M63) : ∃ p n, PoolD p ∧ CallD Try.prog F_spec_DrawLetGo [codeS v a] fun r _ => r = tPI p n := by
  obtain ⟨i0, h0, k0, c0⟩ := c_l1New (v := v) ha
  obtain ⟨c, p, i1, h1, hp, k1, c1⟩ := c_l4Any (v := v) ha k0 h0
  obtain ⟨x, i2, h2, gx, k2, cx⟩ := c_l1Below (v := v) ha k1 h1 14
  refine ⟨p, IntKind.i64.wrap (x - 1), hp, k_spec_DrawLetGo ?_⟩
  unfold vc_spec_DrawLetGo
  exact ⟨_, _, rfl, c0, _, _, _, _, _, _, _, _, _, _, _, rfl, c1, _, _, _, rfl, cx, rfl⟩
end Go.Proofs.Ythmpdfmdhfgaaaa
