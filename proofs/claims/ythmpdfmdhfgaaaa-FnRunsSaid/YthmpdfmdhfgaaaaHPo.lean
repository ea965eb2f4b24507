/- Contracts of small functions: pools as cells, chunks that a slot owns (the same lines as in HQ and HT: for rounds without these). -/
import Derived.Test.YthmpdfmdhfgaaaaHDz
import Derived.Test.YthmpdfmdhfgaaaaHSa
import Derived.Test.YthmpdfmdhfgaaaaVHPo
namespace Go.Proofs.Ythmpdfmdhfgaaaa
open Go Go.Proofs.Ythmpdfmdhfgaaaa.DL
set_option maxRecDepth 100000

abbrev rPool (p : Pool) : SV := aS [.rd (.sl 1 (byts p.mem)), .rd (.sl 1 (ints p.st)), .rd (.sl 1 (ints p.own))]
abbrev oPool (p : Pool) : SV := aS [.own (.sl 1 (byts p.mem)), .own (.sl 1 (ints p.st)), .own (.sl 1 (ints p.own))]
def ownedL (p : Pool) (s : Int) (k : Nat) : List Int := ((List.range k).filter fun i : Nat => decide (p.st.getD i 0 = 1) && decide (p.own.getD i 0 = s)).map fun i : Nat => (i : Int)
theorem owned_step {p : Pool} {s : Int} {k : Nat} : ownedL p s (k + 1) = ownedL p s k ++ if (decide (p.st.getD k 0 = 1) && decide (p.own.getD k 0 = s)) then [(k : Int)] else [] := by
  unfold ownedL
  rw [List.range_succ, List.filter_append, List.map_append]
  congr 1
  rw [List.filter_cons, List.filter_nil]
  split <;> rfl
theorem owned_le (p : Pool) (s : Int) (k : Nat) : (ownedL p s k).length ≤ k := by
  have := List.length_filter_le (fun i : Nat => decide (p.st.getD i 0 = 1) && decide (p.own.getD i 0 = s)) (List.range k)
  simpa [ownedL] using this
def poolN (p : Pool) : Nat := min p.st.length p.own.length
theorem c_OwnedBy {p : Pool} (h1 : p.st.length ≤ 1048576) (_ : p.own.length ≤ 1048576) (s : Int) : CallD Try.prog F_impl_OwnedBy [rPool p, iS s] fun r _ => r = oI (ownedL p s (poolN p)) := by
  refine k_impl_OwnedBy ?_
  unfold vc_impl_OwnedBy
  simp only [nI, n_ints, Bool.false_eq_true, if_false]
  have em : (if (p.own.length : Int) < p.st.length then (p.own.length : Int) else p.st.length) = ((poolN p : Nat) : Int) := by unfold poolN; split <;> omega
  simp only [em]
  have hM : poolN p ≤ p.st.length ∧ poolN p ≤ p.own.length := by unfold poolN; omega
  refine ⟨fun es i m => ∃ k : Nat, i = k ∧ k ≤ poolN p ∧ m = poolN p - k ∧ es = ints (ownedL p s k), ⟨_, 0, rfl, Nat.zero_le _, rfl, rfl⟩, ?_⟩
  rintro es i m ⟨k, rfl, hk, rfl, rfl⟩
  have hle := owned_le p s k
  have w1 : IntKind.i64.wrap ((k : Int) + 1) = ((k + 1 : Nat) : Int) := by rw [wrap_id] <;> omega
  rw [w1]
  simp only [Int.toNat_natCast, Nat.mul_one, n_one, ints_length, List.length_singleton, decide_eq_true_eq (p := (k : Int) < (poolN p : Nat)), decide_eq_false_iff_not (p := (k : Int) < (poolN p : Nat)), ints_snoc]
  refine ⟨fun g0 => ?_, fun g0 => ?_⟩
  · have ha : k < p.st.length := by omega
    have hb : k < p.own.length := by omega
    simp only [hd_ints ha, hd_ints hb, isI_iV, asI_iV]
    refine ⟨by omega, by omega, by simp [ints]; omega, trivial, fun g => ⟨by omega, by omega, by simp [ints]; omega, trivial,
      fun g' => ⟨by omega, by omega, ⟨trivial, trivial, trivial⟩, poolN p - (k + 1), by omega, k + 1, rfl, by omega, rfl, ?_⟩, fun g' => ⟨⟨trivial, trivial, trivial⟩, poolN p - (k + 1), by omega, k + 1, rfl, by omega, rfl, ?_⟩⟩,
      fun g => ⟨⟨trivial, trivial, trivial⟩, poolN p - (k + 1), by omega, k + 1, rfl, by omega, rfl, ?_⟩⟩
    · rw [owned_step, g, g']; rfl
    · rw [owned_step, g']; simp
    · rw [owned_step, g]; simp
  · have : k = poolN p := by omega
    subst this; rfl
theorem c_OwnedByS {p : Pool} (h1 : p.st.length ≤ 1048576) (_ : p.own.length ≤ 1048576) (s : Int) : CallD Try.prog F_spec_OwnedBy [rPool p, iS s] fun r _ => r = oI (ownedL p s (poolN p)) := by
  refine k_spec_OwnedBy ?_
  unfold vc_spec_OwnedBy
  simp only [nI, n_ints]
  have hM : poolN p ≤ p.st.length ∧ poolN p ≤ p.own.length ∧ (poolN p = p.st.length ∨ poolN p = p.own.length) := by unfold poolN; omega
  refine ⟨fun es i m => ∃ k : Nat, i = k ∧ k ≤ poolN p ∧ m = poolN p - k ∧ es = ints (ownedL p s k), ⟨_, 0, rfl, Nat.zero_le _, rfl, rfl⟩, ?_⟩
  rintro es i m ⟨k, rfl, hk, rfl, rfl⟩
  have hle := owned_le p s k
  have w1 : IntKind.i64.wrap ((k : Int) + 1) = ((k + 1 : Nat) : Int) := by rw [wrap_id] <;> omega
  rw [w1]
  simp only [Int.toNat_natCast, Nat.mul_one, n_one, ints_length, List.length_singleton, decide_eq_true_eq (p := (k : Int) < p.st.length), decide_eq_false_iff_not (p := (k : Int) < p.st.length),
    decide_eq_true_eq (p := (k : Int) < p.own.length), decide_eq_false_iff_not (p := (k : Int) < p.own.length), ints_snoc]
  have out : ¬ k < poolN p → oneC (CV.own (DV.sl 1 (ints (ownedL p s k)))) = oI (ownedL p s (poolN p)) := fun h => by
    have : k = poolN p := by omega
    subst this; rfl
  refine ⟨fun g0 => ⟨fun g1 => ?_, fun g1 => out (by omega)⟩, fun g0 => out (by omega)⟩
  have ha : k < p.st.length := by omega
  have hb : k < p.own.length := by omega
  simp only [hd_ints ha, hd_ints hb, isI_iV, asI_iV]
  refine ⟨by omega, by omega, by simp [ints]; omega, trivial, fun g => ⟨by omega, by omega, by simp [ints]; omega, trivial,
    fun g' => ⟨by omega, by omega, ⟨trivial, trivial⟩, poolN p - (k + 1), by omega, k + 1, rfl, by omega, rfl, ?_⟩, fun g' => ⟨⟨trivial, trivial⟩, poolN p - (k + 1), by omega, k + 1, rfl, by omega, rfl, ?_⟩⟩,
    fun g => ⟨⟨trivial, trivial⟩, poolN p - (k + 1), by omega, k + 1, rfl, by omega, rfl, ?_⟩⟩
  · rw [owned_step, g, g']; rfl
  · rw [owned_step, g']; simp
  · rw [owned_step, g]; simp

def zeroB (l : List Int) : Bool := !(l.any fun y => !decide (y = 0))
theorem c_IndexFB {l : List Int} (hl : l.length ≤ M63) {g : FuncId} {caps : List (List DV)} {p : Int → Bool} (hg : ∀ t ∈ l, CallD Try.prog g (oneC (uC t) :: caps.map SV.rptr) fun r _ => r = bS (p t)) :
    CallD Try.prog F_slices_IndexFunc_byte [rB l, .cloR g caps] fun r _ => r = iS (idx p l) := by
  refine k_slices_IndexFunc_byte ?_
  unfold vc_slices_IndexFunc_byte
  unfold M63 at hl
  simp only [nI, n_byts]
  refine ⟨fun i m => ∃ k : Nat, i = k ∧ k ≤ l.length ∧ m = l.length - k ∧ ∀ j (hj : j < l.length), j < k → p l[j] = false, ⟨l.length, 0, rfl, Nat.zero_le _, rfl, fun j hj h => by omega⟩, ?_⟩
  rintro i m ⟨k, rfl, hk, rfl, ht⟩
  simp only [Int.toNat_natCast, decide_eq_true_eq, decide_eq_false_iff_not, Nat.mul_one]
  refine ⟨fun h1 => ?_, fun h1 => iS_eq ?_⟩
  · have ha' : k < l.length := by omega
    simp only [hd_byts ha', getD_eq ha', isI_uV, asI_uV, wrap_id (n := (k : Int) + 1) (by omega) (by omega)]
    refine ⟨by omega, by omega, by simp [byts]; omega, trivial, _, hg l[k] (List.getElem_mem ha'), fun h2 => iS_eq ?_, fun h2 => ⟨⟨trivial, trivial, trivial⟩, l.length - (k + 1), by omega, k + 1, by omega, by omega, rfl, fun j hj hjk => ?_⟩⟩
    · exact (idx_at ha' h2 fun j hj => ht j (by omega) hj).symm
    · by_cases e : j = k
      · subst e; exact h2
      · exact ht j hj (by omega)
  · exact (idx_none fun j hj => ht j hj (by omega)).symm
theorem c_ContainsFB {l : List Int} (hl : l.length ≤ M63) {g : FuncId} {caps : List (List DV)} {p : Int → Bool} (hg : ∀ t ∈ l, CallD Try.prog g (oneC (uC t) :: caps.map SV.rptr) fun r _ => r = bS (p t)) :
    CallD Try.prog F_slices_ContainsFunc_byte [rB l, .cloR g caps] fun r _ => r = bS (l.any p) := by
  refine k_slices_ContainsFunc_byte ?_
  unfold vc_slices_ContainsFunc_byte
  refine ⟨_, c_IndexFB hl hg, fun h => bS_eq ?_, fun h => bS_eq ?_⟩
  · rw [← idx_any, h]
  · rw [← idx_any, h]
theorem c_IsZero {l : List Int} (hl : l.length ≤ M63) : CallD Try.prog F_impl_IsZero [rB l] fun r _ => r = bS (zeroB l) := by
  refine k_impl_IsZero ?_
  unfold vc_impl_IsZero
  refine ⟨_, c_ContainsFB (p := fun y => !decide (y = 0)) hl (caps := []) fun t _ => k_impl_IsZero_1 ?_, fun h => bS_eq ?_, fun h => bS_eq ?_⟩
  · unfold vc_impl_IsZero_1
    exact ⟨fun h => bS_eq h.symm, fun h => bS_eq h.symm⟩
  · unfold zeroB; rw [h]
  · unfold zeroB; rw [h]
theorem c_IsZeroS {l : List Int} (hl : l.length ≤ M63) : CallD Try.prog F_spec_IsZero [rB l] fun r _ => r = bS (zeroB l) := by
  refine k_spec_IsZero ?_
  unfold vc_spec_IsZero
  unfold M63 at hl
  simp only [nI, n_byts]
  refine ⟨fun i m => ∃ k : Nat, i = k ∧ k ≤ l.length ∧ m = l.length - k ∧ ∀ j (hj : j < l.length), j < k → l[j] = 0, ⟨l.length, 0, rfl, Nat.zero_le _, rfl, fun j hj h => by omega⟩, ?_⟩
  rintro i m ⟨k, rfl, hk, rfl, ht⟩
  simp only [Int.toNat_natCast, Nat.mul_one, decide_eq_true_eq (p := (k : Int) < l.length), decide_eq_false_iff_not (p := (k : Int) < l.length)]
  refine ⟨fun h1 => ?_, fun h1 => bS_eq ?_⟩
  · have ha' : k < l.length := by omega
    simp only [hd_byts ha', getD_eq ha', isI_uV, asI_uV, wrap_id (n := (k : Int) + 1) (by omega) (by omega)]
    refine ⟨by omega, by omega, by simp [byts]; omega, trivial, fun h2 => bS_eq ?_, fun h2 => ⟨trivial, l.length - (k + 1), by omega, k + 1, by omega, by omega, rfl, fun j hj hjk => ?_⟩⟩
    · unfold zeroB
      rw [List.any_eq_true.2 ⟨_, List.getElem_mem ha', h2⟩]; rfl
    · by_cases e : j = k
      · subst e; simpa using h2
      · exact ht j hj (by omega)
  · unfold zeroB
    rw [List.any_eq_false.2 fun x hx => ?_]
    · rfl
    · obtain ⟨j, hj, rfl⟩ := List.mem_iff_getElem.1 hx
      simp [ht j hj (by omega)]
/-- The bytes of a chunk. -/
def chunkL (c : Conf) (l : List Int) (k : Nat) : List Int := (l.take ((k + 1) * c.size.toNat)).drop (k * c.size.toNat)
theorem chunkL_le (c : Conf) (l : List Int) (k : Nat) : (chunkL c l k).length ≤ l.length := by
  unfold chunkL; simp only [List.length_drop, List.length_take]; omega
def okAt (c : Conf) (p : Pool) (k : Nat) : Bool :=
  within (p.st.getD k 0) 0 2 && ((if p.st.getD k 0 = 1 then within (p.own.getD k 0) 0 (IntKind.i64.wrap (c.slots - 1)) else decide (p.own.getD k 0 = -1)) && (if p.st.getD k 0 = 0 then zeroB (chunkL c p.mem k) else true))
def poolOkB (c : Conf) (p : Pool) : Bool := c.good && (decide ((p.mem.length : Int) = bytesOf c) && (decide ((p.st.length : Int) = c.chunks) && (decide ((p.own.length : Int) = c.chunks) && (List.range p.st.length).all (okAt c p))))
/-- The numbers of a pool whose sizes are right. -/
structure PoolS (c : Conf) (p : Pool) (sz : Nat) : Prop where
  size : c.size = sz
  szb : 8 ≤ sz ∧ sz ≤ 16
  st : (p.st.length : Int) = c.chunks
  n : p.st.length ≤ 12
  own : p.own.length = p.st.length
  mem : p.mem.length = p.st.length * sz
theorem poolS_of {c : Conf} {p : Pool} (h1 : c.good = true) (h2 : (p.mem.length : Int) = bytesOf c) (h3 : (p.st.length : Int) = c.chunks) (h4 : (p.own.length : Int) = c.chunks) : PoolS c p c.size.toNat := by
  obtain ⟨hb, -, -⟩ := bytesOf_good h1
  obtain ⟨⟨c1, c2⟩, ⟨c3, c4⟩, -⟩ := Conf.good_iff.1 h1
  have e : ((c.size.toNat : Nat) : Int) = c.size := by omega
  refine ⟨e.symm, by omega, h3, by omega, by omega, ?_⟩
  rw [hb, ← h3, ← e] at h2
  exact_mod_cast h2
section
variable {c : Conf} {p : Pool} {sz : Nat} (h : PoolS c p sz) {k : Nat}
include h
section
variable (hk : k < p.st.length)
include hk
theorem PoolS.lo : IntKind.i64.wrap ((k : Int) * c.size) = ((k * sz : Nat) : Int) ∧ IntKind.i64.wrap (IntKind.i64.wrap ((k : Int) + 1) * c.size) = (((k + 1) * sz : Nat) : Int) ∧ k * sz ≤ (k + 1) * sz ∧ (k + 1) * sz ≤ p.mem.length := by
  have h1 : (k + 1) * sz ≤ p.st.length * sz := Nat.mul_le_mul_right _ hk
  have h2 : p.st.length * sz ≤ 12 * 16 := Nat.mul_le_mul h.n h.szb.2
  have h3 : k * sz ≤ (k + 1) * sz := Nat.mul_le_mul_right _ (by omega)
  have hn := h.n
  rw [wrap_id (n := (k : Int) + 1) (by omega) (by omega), h.size]
  have e1 : (k : Int) * (sz : Int) = ((k * sz : Nat) : Int) := by simp
  have e2 : ((k : Int) + 1) * (sz : Int) = (((k + 1) * sz : Nat) : Int) := by simp
  rw [e1, e2, wrap_id (by omega) (by omega), wrap_id (by omega) (by omega), h.mem]
  exact ⟨rfl, rfl, h3, h1⟩
theorem PoolS.bd : (0 : Int) ≤ ((k * sz : Nat) : Int) ∧ ((k * sz : Nat) : Int) ≤ (((k + 1) * sz : Nat) : Int) ∧ (((k + 1) * sz : Nat) : Int) ≤ nI (DV.sl 1 (byts p.mem)).n := by
  obtain ⟨-, -, h3, h4⟩ := h.lo hk
  simp only [nI, n_byts]
  omega
theorem PoolS.chunk (u : Value) : CallD Try.prog F_impl_Pool_chunk [aS [.vl u (.sl 1 (byts p.mem)), .rd (.sl 1 (ints p.st)), .rd (.sl 1 (ints p.own))], confS c, iS (k : Int)] fun r _ =>
    r = oneC (.vl (cutW 1 u (((k * sz : Nat) : Int)).toNat ((((k + 1) * sz : Nat) : Int)).toNat) (.sl 1 (List.drop ((((k * sz : Nat) : Int)).toNat * 1) (List.take (((((k + 1) * sz : Nat) : Int)).toNat * 1) (byts p.mem))))) := by
  obtain ⟨h1, h2, h3, h4⟩ := h.lo hk
  refine k_impl_Pool_chunk ?_
  unfold vc_impl_Pool_chunk
  rw [h1, h2]
  simp only [nI, n_byts]
  exact ⟨by omega, by omega, by omega, trivial⟩
end
theorem PoolS.cut : List.drop ((((k * sz : Nat) : Int)).toNat * 1) (List.take (((((k + 1) * sz : Nat) : Int)).toNat * 1) (byts p.mem)) = byts (chunkL c p.mem k) := by
  simp only [Int.toNat_natCast, Nat.mul_one, take_byts, drop_byts, chunkL, h.size]
theorem PoolS.mem_le : (chunkL c p.mem k).length ≤ M63 := by
  have h1 := chunkL_le c p.mem k
  have h2 : p.st.length * sz ≤ 12 * 16 := Nat.mul_le_mul h.n h.szb.2
  rw [h.mem] at h1
  unfold M63; omega
end
theorem poolOk_false {c : Conf} {p : Pool} {k : Nat} (hk : k < p.st.length) (h : okAt c p k = false) : poolOkB c p = false := by
  have : (List.range p.st.length).all (okAt c p) = false := by
    rw [List.all_eq_false]
    exact ⟨k, List.mem_range.2 hk, by simp [h]⟩
  unfold poolOkB
  rw [this]; simp
set_option maxHeartbeats 4000000 in
theorem c_PoolOk (c : Conf) (p : Pool) : CallD Try.prog F_impl_PoolOk [confS c, rPool p] fun r _ => r = bS (poolOkB c p) := by
  refine k_impl_PoolOk ?_
  unfold vc_impl_PoolOk
  simp only [nI, n_ints, n_byts]
  refine ⟨_, c_confOk c, fun g1 => ⟨_, c_BytesOf c, fun g2 => bS_eq ?_, fun g2 => ⟨fun g3 => bS_eq ?_, fun g3 => ⟨fun g4 => bS_eq ?_, fun g4 => ?_⟩⟩⟩, fun g1 => bS_eq ?_⟩
  · unfold poolOkB; simp at g2; simp [g2]
  · unfold poolOkB; simp at g3; simp [g3]
  · unfold poolOkB; simp at g4; simp [g4]
  · have hS := poolS_of (p := p) g1 (by simpa using g2) (by simpa using g3) (by simpa using g4)
    have hall : ∀ k, k = p.st.length → (∀ j, j < k → okAt c p j = true) → true = poolOkB c p := by
      rintro k rfl hj
      unfold poolOkB
      rw [g1, List.all_eq_true.2 fun j hm => hj j (List.mem_range.1 hm)]
      simp at g2 g3 g4
      simp [g2, g3, g4]
    generalize c.size.toNat = sz at hS
    have hn := hS.n
    refine ⟨fun i m => ∃ k : Nat, i = k ∧ k ≤ p.st.length ∧ m = p.st.length - k ∧ ∀ j, j < k → okAt c p j = true, ⟨_, 0, rfl, Nat.zero_le _, rfl, fun j hj => by omega⟩, ?_⟩
    rintro i m ⟨k, rfl, hk, rfl, hj⟩
    simp only [Int.toNat_natCast, Nat.mul_one, decide_eq_true_eq (p := (k : Int) < p.st.length), decide_eq_false_iff_not (p := (k : Int) < p.st.length)]
    refine ⟨fun hlt => ?_, fun hlt => bS_eq (hall k (by omega) hj)⟩
    have hlt' : k < p.st.length := by omega
    have hlo : k < p.own.length := by rw [hS.own]; omega
    simp only [hd_ints hlt', hd_ints hlo, isI_iV, asI_iV, wrap_id (n := (k : Int) + 1) (by omega) (by omega)]
    have cont : okAt c p k = true → ∃ m, m < p.st.length - k ∧ ∃ kk : Nat, ((k : Int) + 1) = kk ∧ kk ≤ p.st.length ∧ m = p.st.length - kk ∧ ∀ j, j < kk → okAt c p j = true := fun ho =>
      ⟨p.st.length - (k + 1), by omega, k + 1, by omega, by omega, rfl, fun j hjk => by
        by_cases e : j = k
        · rw [e]; exact ho
        · exact hj j (by omega)⟩
    have bad : okAt c p k = false → false = poolOkB c p := fun ho => (poolOk_false hlt' ho).symm
    have hbd := hS.bd hlt'
    have hcut := hS.cut (k := k)
    have hch := hS.chunk hlt'
    simp only [Nat.mul_one] at hch hcut
    have hml := hS.mem_le (k := k)
    simp only [nI, n_byts] at hbd
    have hz := c_IsZero hml
    have ho : okAt c p k = (within (p.st.getD k 0) 0 2 && ((if p.st.getD k 0 = 1 then within (p.own.getD k 0) 0 (IntKind.i64.wrap (c.slots - 1)) else decide (p.own.getD k 0 = -1)) && (if p.st.getD k 0 = 0 then zeroB (chunkL c p.mem k) else true))) := rfl
    generalize p.st.getD k 0 = s at *
    generalize p.own.getD k 0 = o at *
    rw [ho] at cont bad
    clear ho hall
    have hs1 := c_within s 0 2
    have hs2 := c_within o 0 (IntKind.i64.wrap (c.slots - 1))
    have b1 : (0 : Int) ≤ k := by omega
    have b2 : (k : Int) < p.st.length := by omega
    have b3 : (k : Int) < p.own.length := by omega
    have b4 : 1 ≤ (List.drop k (ints p.st)).length := by simp [ints]; omega
    have b5 : 1 ≤ (List.drop k (ints p.own)).length := by simp [ints]; omega
    repeat' (first
      | (with_reducible refine ⟨⟨trivial, trivial, trivial, trivial⟩, cont ?_⟩)
      | ((with_reducible refine ⟨_, _, hbd, hch, ?_⟩); rw [hcut])
      | with_reducible apply Exists.intro
      | with_reducible apply And.intro
      | with_reducible exact hs1
      | with_reducible exact hs2
      | with_reducible exact hz
      | with_reducible exact b1
      | with_reducible exact b2
      | with_reducible exact b3
      | with_reducible exact b4
      | with_reducible exact b5
      | with_reducible exact trivial
      | intro hh
      | (simp_all; done)
      | (refine bS_eq (bad ?_); simp_all; done))
  · unfold poolOkB; rw [g1]; rfl
set_option maxHeartbeats 4000000 in
theorem c_PoolOkS (c : Conf) (p : Pool) : CallD Try.prog F_spec_PoolOk [confS c, rPool p] fun r _ => r = bS (poolOkB c p) := by
  refine k_spec_PoolOk ?_
  unfold vc_spec_PoolOk
  simp only [nI, n_ints, n_byts]
  refine ⟨_, c_confOkS c, fun g1 => ⟨_, c_BytesOfS c, fun g2 => bS_eq ?_, fun g2 => ⟨fun g3 => bS_eq ?_, fun g3 => ⟨fun g4 => bS_eq ?_, fun g4 => ?_⟩⟩⟩, fun g1 => bS_eq ?_⟩
  · unfold poolOkB; simp at g2; simp [g2]
  · unfold poolOkB; simp at g3; simp [g3]
  · unfold poolOkB; simp at g4; simp [g4]
  · have hS := poolS_of (p := p) g1 (by simpa using g2) (by simpa using g3) (by simpa using g4)
    have hall : ∀ k, k = p.st.length → (∀ j, j < k → okAt c p j = true) → true = poolOkB c p := by
      rintro k rfl hj
      unfold poolOkB
      rw [g1, List.all_eq_true.2 fun j hm => hj j (List.mem_range.1 hm)]
      simp at g2 g3 g4
      simp [g2, g3, g4]
    generalize c.size.toNat = sz at hS
    have hn := hS.n
    have hst := hS.st
    refine ⟨fun i m => ∃ k : Nat, i = k ∧ k ≤ p.st.length ∧ m = p.st.length - k ∧ ∀ j, j < k → okAt c p j = true, ⟨_, 0, rfl, Nat.zero_le _, rfl, fun j hj => by omega⟩, ?_⟩
    rintro i m ⟨k, rfl, hk, rfl, hj⟩
    simp only [Int.toNat_natCast, Nat.mul_one, decide_eq_true_eq (p := (k : Int) < c.chunks), decide_eq_false_iff_not (p := (k : Int) < c.chunks)]
    refine ⟨fun hlt => ?_, fun hlt => bS_eq (hall k (by omega) hj)⟩
    have hlt' : k < p.st.length := by omega
    have hlo : k < p.own.length := by rw [hS.own]; omega
    simp only [hd_ints hlt', hd_ints hlo, isI_iV, asI_iV, wrap_id (n := (k : Int) + 1) (by omega) (by omega)]
    have cont : okAt c p k = true → ∃ m, m < p.st.length - k ∧ ∃ kk : Nat, ((k : Int) + 1) = kk ∧ kk ≤ p.st.length ∧ m = p.st.length - kk ∧ ∀ j, j < kk → okAt c p j = true := fun ho =>
      ⟨p.st.length - (k + 1), by omega, k + 1, by omega, by omega, rfl, fun j hjk => by
        by_cases e : j = k
        · rw [e]; exact ho
        · exact hj j (by omega)⟩
    have bad : okAt c p k = false → false = poolOkB c p := fun ho => (poolOk_false hlt' ho).symm
    have hbd := hS.bd hlt'
    simp only [nI, n_byts] at hbd
    have hcut : List.drop (k * sz) (List.take ((k + 1) * sz) p.mem) = chunkL c p.mem k := by simp only [chunkL, hS.size, Int.toNat_natCast]
    obtain ⟨w1, w2, -, -⟩ := hS.lo hlt'
    rw [wrap_id (n := (k : Int) + 1) (by omega) (by omega)] at w2
    simp only [w1, w2, Int.toNat_natCast, take_byts, drop_byts]
    rw [hcut]
    obtain ⟨b6, b7, b8⟩ := hbd
    have hml := hS.mem_le (k := k)
    have hz := c_IsZeroS hml
    have ho : okAt c p k = (within (p.st.getD k 0) 0 2 && ((if p.st.getD k 0 = 1 then within (p.own.getD k 0) 0 (IntKind.i64.wrap (c.slots - 1)) else decide (p.own.getD k 0 = -1)) && (if p.st.getD k 0 = 0 then zeroB (chunkL c p.mem k) else true))) := rfl
    generalize p.st.getD k 0 = s at *
    generalize p.own.getD k 0 = o at *
    rw [ho] at cont bad
    clear ho hall
    have hs1 := c_l1In s 0 2
    have hs2 := c_l1In o 0 (IntKind.i64.wrap (c.slots - 1))
    have b1 : (0 : Int) ≤ k := by omega
    have b2 : (k : Int) < p.st.length := by omega
    have b3 : (k : Int) < p.own.length := by omega
    have b4 : 1 ≤ (List.drop k (ints p.st)).length := by simp [ints]; omega
    have b5 : 1 ≤ (List.drop k (ints p.own)).length := by simp [ints]; omega
    repeat' (first
      | (with_reducible refine ⟨⟨trivial, trivial⟩, cont ?_⟩)
      | with_reducible exact b6
      | with_reducible exact b7
      | with_reducible exact b8
      | with_reducible apply Exists.intro
      | with_reducible apply And.intro
      | with_reducible exact hs1
      | with_reducible exact hs2
      | with_reducible exact hz
      | with_reducible exact b1
      | with_reducible exact b2
      | with_reducible exact b3
      | with_reducible exact b4
      | with_reducible exact b5
      | with_reducible exact trivial
      | intro hh
      | (simp_all; done)
      | (refine bS_eq (bad ?_); simp_all; done))
  · unfold poolOkB; rw [g1]; rfl
end Go.Proofs.Ythmpdfmdhfgaaaa
