/- Contracts of small functions: some bytes of a chunk wiped. -/
import Derived.Test.YthmpdfmdhfgaaaaHWp
import Derived.Test.YthmpdfmdhfgaaaaVHWq
namespace Go.Proofs.Ythmpdfmdhfgaaaa
open Go Go.Proofs.Ythmpdfmdhfgaaaa.DL
set_option maxRecDepth 100000

theorem getD_over {l : List Int} {i : Nat} (h : l.length ≤ i) : l.getD i 0 = 0 := by
  rw [List.getD_eq_getElem?_getD, List.getElem?_eq_none h]; rfl
theorem zeroB_iff {l : List Int} : zeroB l = true ↔ ∀ i, l.getD i 0 = 0 := by
  unfold zeroB
  constructor
  · intro h i
    by_cases hi : i < l.length
    · rw [getD_eq hi]
      rw [Bool.not_eq_true'] at h
      have := List.any_eq_false.1 h l[i] (List.getElem_mem hi)
      simpa using this
    · exact getD_over (by omega)
  · intro h
    rw [List.any_eq_false.2 fun x hx => ?_]
    · rfl
    · obtain ⟨j, hj, rfl⟩ := List.mem_iff_getElem.1 hx
      have := h j
      rw [getD_eq hj] at this
      simp [this]
theorem getD_take' (l : List Int) (n i : Nat) : (l.take n).getD i 0 = if i < n then l.getD i 0 else 0 := by
  simp only [List.getD_eq_getElem?_getD, List.getElem?_take]
  split <;> rfl
theorem getD_chunk {c : Conf} {sz : Nat} (h : c.size = sz) (l : List Int) (k i : Nat) : (chunkL c l k).getD i 0 = if i < sz then l.getD (k * sz + i) 0 else 0 := by
  unfold chunkL
  rw [h, Int.toNat_natCast]
  simp only [List.getD_eq_getElem?_getD, List.getElem?_drop, List.getElem?_take, Nat.add_mul, Nat.one_mul]
  by_cases hi : i < sz
  · rw [if_pos hi, if_pos (by omega)]
  · rw [if_neg hi, if_neg (by omega)]; rfl
theorem getD_wipe (l : List Int) (a n i : Nat) : (wipeL l a n).getD i 0 = if a ≤ i ∧ i < a + n then 0 else l.getD i 0 := by
  unfold wipeL
  simp only [List.getD_eq_getElem?_getD]
  by_cases h1 : i < a
  · rw [if_neg (by omega)]
    by_cases h2 : i < l.length
    · rw [List.getElem?_append_left (by simp; omega), List.getElem?_take, if_pos h1]
    · rw [List.getElem?_eq_none (l := l) (by omega), List.getElem?_eq_none (by simp; omega)]
  · by_cases h3 : a ≤ l.length
    · rw [List.getElem?_append_right (by simp; omega)]
      have e : (List.take a l).length = a := by simp; omega
      rw [e]
      by_cases h2 : i < a + n
      · rw [if_pos (by omega)]
        by_cases h4 : i < l.length
        · rw [List.getElem?_append_left (by simp; omega), List.getElem?_replicate, if_pos (by omega)]; rfl
        · rw [List.getElem?_eq_none (by simp; omega)]; rfl
      · rw [if_neg (by omega)]
        by_cases h4 : i < l.length
        · rw [List.getElem?_append_right (by simp; omega), List.getElem?_drop, List.length_replicate]
          congr 2
          omega
        · rw [List.getElem?_eq_none (l := l) (by omega), List.getElem?_eq_none (by simp; omega)]
    · rw [List.getElem?_eq_none (by simp; omega), List.getElem?_eq_none (l := l) (by omega)]
      simp
section
variable {c : Conf} {sz : Nat} (h : c.size = sz)
include h
theorem zero_end (l : List Int) (k : Nat) {f : Nat} (hf : f ≤ sz) : zeroB (chunkL c (wipeL l (k * sz + f) (sz - f)) k) = zeroB ((chunkL c l k).take f) := by
  rw [Bool.eq_iff_iff, zeroB_iff, zeroB_iff]
  refine forall_congr' fun i => ?_
  rw [getD_chunk h, getD_take', getD_chunk h, getD_wipe]
  by_cases h1 : i < f
  · rw [if_pos (show i < sz by omega), if_neg (by omega), if_pos h1, if_pos (show i < sz by omega)]
  · rw [if_neg h1]
    by_cases h2 : i < sz
    · rw [if_pos h2, if_pos (by omega)]
    · rw [if_neg h2]
theorem zero_other (l : List Int) {k j : Nat} (hjk : j ≠ k) {f t : Nat} (hf : f + t ≤ sz) : zeroB (chunkL c (wipeL l (k * sz + f) t) j) = zeroB (chunkL c l j) := by
  rw [Bool.eq_iff_iff, zeroB_iff, zeroB_iff]
  refine forall_congr' fun i => ?_
  rw [getD_chunk h, getD_chunk h, getD_wipe]
  by_cases h2 : i < sz
  · rw [if_pos h2, if_pos h2]
    have : ¬ (k * sz + f ≤ j * sz + i ∧ j * sz + i < k * sz + f + t) := by
      rcases Nat.lt_or_gt_of_ne hjk with hlt | hlt
      · have := Nat.mul_le_mul_right sz (show j + 1 ≤ k by omega)
        rw [Nat.add_mul, Nat.one_mul] at this
        omega
      · have := Nat.mul_le_mul_right sz (show k + 1 ≤ j by omega)
        rw [Nat.add_mul, Nat.one_mul] at this
        omega
    rw [if_neg this]
  · rw [if_neg h2, if_neg h2]
end
/-- What WipeSome gives. -/
def toN (c : Conf) (f : Int) : Int := if c.size < f + c.slice then c.size else f + c.slice
def wipeB (c : Conf) (p : Pool) (k f : Int) : Bool := poolOkB c p && (within k 0 (IntKind.i64.wrap (c.chunks - 1)) && (decide (p.st.getD k.toNat 0 = 2) && within f 0 (IntKind.i64.wrap (c.size - 1))))
def wipeM (c : Conf) (p : Pool) (k f : Int) : List Int := wipeL p.mem (k.toNat * c.size.toNat + f.toNat) (toN c f - f).toNat
def wipeP (c : Conf) (p : Pool) (k f : Int) : Pool :=
  if wipeB c p k f then (if toN c f < c.size then { p with mem := wipeM c p k f } else if zeroB ((chunkL c p.mem k.toNat).take f.toNat) then { p with mem := wipeM c p k f, st := p.st.set k.toNat 0 } else p) else p
def wipeE (c : Conf) (p : Pool) (k f : Int) : Bool := wipeB c p k f && (!decide (toN c f < c.size) && zeroB ((chunkL c p.mem k.toNat).take f.toNat))
abbrev tPB (p : Pool) (b : Bool) : SV := .tup [.agg [.own (.sl 1 (byts p.mem)), .own (.sl 1 (ints p.st)), .own (.sl 1 (ints p.own))], .cell (bC b)]
theorem wipe_no {c : Conf} {p : Pool} {k f : Int} (h : wipeB c p k f = false) : tPB p false = tPB (wipeP c p k f) (wipeE c p k f) := by
  unfold wipeP wipeE; rw [h]; rfl
/-- What is known where bytes are wiped. -/
structure WipeS (c : Conf) (p : Pool) (k f : Int) (K F sz : Nat) : Prop where
  good : c.good = true
  pool : PoolS c p sz
  ok : ∀ j, j < p.st.length → okAt c p j = true
  k : k = (K : Int)
  lt : K < p.st.length
  f : f = (F : Int)
  fsz : F < sz
  st : p.st.getD K 0 = 2
  slice : 1 ≤ c.slice ∧ c.slice ≤ 16
theorem wipe_S {c : Conf} {p : Pool} {k f : Int} (h : wipeB c p k f = true) : WipeS c p k f k.toNat f.toNat c.size.toNat := by
  unfold wipeB at h
  simp only [Bool.and_eq_true, decide_eq_true_eq] at h
  obtain ⟨h1, h2, h3, h4⟩ := h
  obtain ⟨e, hk⟩ := chunk_in h1 h2
  obtain ⟨hg, hS, hok⟩ := poolOk_S h1
  have hs := Conf.good_iff.1 hg
  have := hS.size
  have := hS.szb
  rw [within_iff, wrap_id (n := c.size - 1) (by omega) (by omega)] at h4
  exact ⟨hg, hS, hok, e, hk, by omega, by omega, h3, hs.2.2.2.2.1⟩
set_option maxHeartbeats 4000000 in
theorem c_WipeSomeS (c : Conf) {p : Pool} (hp : PoolC p) (k f : Int) : CallD Try.prog F_spec_WipeSome [confS c, rPool p, iS k, iS f] fun r _ => r = tPB (wipeP c p k f) (wipeE c p k f) := by
  refine k_spec_WipeSome ?_
  unfold vc_spec_WipeSome
  refine ⟨_, _, _, c_l4CopyC hp, _, c_PoolOkS c p, fun g1 => ⟨_, c_l1In k 0 _, fun g2 => ?_, fun g2 => wipe_no (by unfold wipeB; rw [g1, g2]; rfl)⟩, fun g1 => wipe_no (by unfold wipeB; rw [g1]; rfl)⟩
  obtain ⟨e, hk⟩ := chunk_in g1 g2
  simp only [Nat.mul_one, hd_ints hk, isI_iV, asI_iV]
  have b1 : k < nI (DV.sl 1 (ints p.st)).n := by simp only [nI, n_ints]; omega
  refine ⟨by omega, b1, by simp [ints]; omega, trivial, fun g3 => wipe_no ?_, fun g3 => ⟨_, c_l1In f 0 _, fun g4 => ?_, fun g4 => wipe_no ?_⟩⟩
  · unfold wipeB; simp at g3; simp [g3]
  · have g3 : p.st.getD k.toNat 0 = 2 := by simpa using g3
    have hB : wipeB c p k f = true := by unfold wipeB; rw [g1, g2, g4, g3]; rfl
    have hW := wipe_S hB
    have hsz := hW.pool.size
    have hszb := hW.pool.szb
    have hf := hW.f
    have hfs := hW.fsz
    have hsl := hW.slice
    have hmem := hp.mem
    obtain ⟨w1, w2, w3, w4⟩ := hW.pool.lo hW.lt
    rw [← e] at w1 w2
    have hcut : ∀ l : List Int, List.drop (k.toNat * c.size.toNat) (List.take ((k.toNat + 1) * c.size.toNat) l) = chunkL c l k.toNat := fun l => rfl
    have hto : (if c.size < IntKind.i64.wrap (f + c.slice) then c.size else IntKind.i64.wrap (f + c.slice)) = toN c f := by unfold toN; rw [wrap_id (by omega) (by omega)]
    have hl := c_Least (IntKind.i64.wrap (f + c.slice)) c.size
    rw [hto] at hl
    have htb : f < toN c f ∧ toN c f ≤ c.size := by unfold toN; split <;> omega
    have wt : IntKind.i64.wrap (toN c f - f) = toN c f - f := wrap_id (by omega) (by omega)
    have wa : IntKind.i64.wrap (IntKind.i64.wrap (k * c.size) + f) = ((k.toNat * c.size.toNat + f.toNat : Nat) : Int) := by rw [w1, wrap_id (by omega) (by omega)]; omega
    have hw := c_WipeS hmem (a := ((k.toNat * c.size.toNat + f.toNat : Nat) : Int)) (n := toN c f - f) (by unfold I64; omega)
    have ew : wipeI p.mem ((k.toNat * c.size.toNat + f.toNat : Nat) : Int) (toN c f - f) = wipeM c p k f := by
      unfold wipeI wipeM; rw [if_neg (by omega), Int.toNat_natCast]
    rw [ew] at hw
    have hml : (wipeM c p k f).length = p.mem.length := wipeL_length ..
    rw [wa]
    refine ⟨_, hl, byts (wipeM c p k f), by rw [wt]; exact hw, fun g5 => ?_, fun g5 => ?_⟩
    · have g5 := of_decide_eq_true g5
      show _ = tPB _ _
      unfold wipeP wipeE
      rw [hB, if_pos rfl, if_pos g5, decide_eq_true g5]
      rfl
    · have g5 := of_decide_eq_false g5
      have hz : zeroB (chunkL c (wipeM c p k f) k.toNat) = zeroB ((chunkL c p.mem k.toNat).take f.toNat) := by
        have : (toN c f - f).toNat = c.size.toNat - f.toNat := by omega
        unfold wipeM
        rw [this]
        exact zero_end hsz _ _ (by omega)
      have hzl : (chunkL c (wipeM c p k f) k.toNat).length ≤ M63 := Nat.le_trans (chunkL_le ..) (by rw [hml]; unfold M63; omega)
      rw [w1, w2]
      simp only [Int.toNat_natCast, take_byts, drop_byts, hcut]
      refine ⟨by omega, by omega, by simp only [nI, n_byts]; omega, _, c_IsZeroS hzl, fun g6 => ⟨by omega, b1, trivial, by rw [es_sl, ints_length]; omega, ?_⟩, fun g6 => ⟨_, _, _, c_l4CopyC hp, ?_⟩⟩
      · rw [hz] at g6
        show _ = tPB _ _
        unfold wipeP wipeE
        rw [hB, if_pos rfl, if_neg g5, decide_eq_false g5, g6, set_ints]
        rfl
      · rw [hz] at g6
        show _ = tPB _ _
        unfold wipeP wipeE
        rw [hB, if_pos rfl, if_neg g5, decide_eq_false g5, g6]
        rfl
  · unfold wipeB; rw [g4]; simp
set_option maxHeartbeats 4000000 in
theorem c_WipeSome (c : Conf) {p : Pool} (hp : PoolC p) (k f : Int) : CallD Try.prog F_impl_WipeSome [confS c, rPool p, iS k, iS f] fun r _ => r = tPB (wipeP c p k f) (wipeE c p k f) := by
  refine k_impl_WipeSome ?_
  unfold vc_impl_WipeSome
  refine ⟨_, _, _, c_copyPoolC hp, _, c_PoolOk c p, fun g1 => ⟨_, c_within k 0 _, fun g2 => ?_, fun g2 => wipe_no (by unfold wipeB; rw [g1, g2]; rfl)⟩, fun g1 => wipe_no (by unfold wipeB; rw [g1]; rfl)⟩
  obtain ⟨e, hk⟩ := chunk_in g1 g2
  simp only [Nat.mul_one, hd_ints hk, isI_iV, asI_iV, Bool.false_eq_true, if_false]
  have b1 : k < nI (DV.sl 1 (ints p.st)).n := by simp only [nI, n_ints]; omega
  refine ⟨by omega, b1, by simp [ints]; omega, trivial, fun g3 => wipe_no ?_, fun g3 => ⟨_, c_within f 0 _, fun g4 => ?_, fun g4 => wipe_no ?_⟩⟩
  · unfold wipeB; simp at g3; simp [g3]
  · have g3 : p.st.getD k.toNat 0 = 2 := by simpa using g3
    have hB : wipeB c p k f = true := by unfold wipeB; rw [g1, g2, g4, g3]; rfl
    have hW := wipe_S hB
    have hsz := hW.pool.size
    have hszb := hW.pool.szb
    have hf := hW.f
    have hfs := hW.fsz
    have hsl := hW.slice
    have hmem := hp.mem
    have hbd := hW.pool.bd hW.lt
    have hch := hW.pool.chunk hW.lt
    obtain ⟨w1, w2, w3, w4⟩ := hW.pool.lo hW.lt
    rw [← e] at hch
    have hto : (if c.size < IntKind.i64.wrap (f + c.slice) then c.size else IntKind.i64.wrap (f + c.slice)) = toN c f := by unfold toN; rw [wrap_id (by omega) (by omega)]
    have htb : f < toN c f ∧ toN c f ≤ c.size ∧ (toN c f < c.size ↔ ¬ c.size ≤ f + c.slice) := by unfold toN; split <;> omega
    have wf : IntKind.i64.wrap (f + c.slice) = f + c.slice := wrap_id (by omega) (by omega)
    have hcl : (chunkL c p.mem k.toNat).length = c.size.toNat := by
      unfold chunkL
      rw [List.length_drop, List.length_take, Nat.min_eq_left w4, Nat.add_mul]
      omega
    have hcut := hW.pool.cut (k := k.toNat)
    simp only [Nat.mul_one] at hch hcut
    simp only [hto]
    have hn0 : (List.drop f.toNat (List.take (toN c f).toNat (chunkL c p.mem k.toNat))).length = (toN c f - f).toNat := by
      rw [List.length_drop, List.length_take, hcl]; omega
    have hov : overlay (byts p.mem) (k.toNat * c.size.toNat + f.toNat) (List.replicate (toN c f - f).toNat (uV 0)) = byts (wipeM c p k f) := by
      have hle : k.toNat * c.size.toNat + f.toNat + (toN c f - f).toNat ≤ p.mem.length := by rw [Nat.add_mul] at w4; omega
      unfold overlay wipeM wipeL
      rw [setRange_eq _ _ _ (by rw [List.length_replicate, byts_length]; exact hle), List.length_replicate, zero_byts, take_byts, drop_byts, byts_app, byts_app]
      rw [show min (toN c f - f).toNat (p.mem.length - (k.toNat * c.size.toNat + f.toNat)) = (toN c f - f).toNat by omega]
    have hlen : k.toNat * c.size.toNat + f.toNat + (toN c f - f).toNat ≤ (DV.sl 1 (byts p.mem)).es.length := by rw [es_sl, byts_length]; rw [Nat.add_mul] at w4; omega
    have hzl : ((chunkL c p.mem k.toNat).take f.toNat).length ≤ M63 := by rw [List.length_take, hcl]; unfold M63; omega
    have hz := c_IsZero hzl
    refine ⟨fun g5 => ⟨_, _, hbd, hch, ?_⟩, fun g5 => ⟨_, _, hbd, hch, ?_⟩⟩
    · rw [hcut]
      rw [wf] at g5
      have g5 : ¬ toN c f < c.size := fun h => htb.2.2.1 h (of_decide_eq_true g5)
      refine ⟨by omega, by omega, by simp only [nI, n_byts, hcl]; omega, zeroB ((chunkL c p.mem k.toNat).take f.toNat), ?_, fun g6 => ⟨_, _, hbd, hch, ?_⟩, fun g6 => ?_⟩
      · rw [take_byts]; exact hz
      · rw [hcut]
        simp only [take_byts, drop_byts, byts_length, hn0, Int.toNat_natCast, set_ints]
        refine ⟨by omega, by omega, by simp only [nI, n_byts, hcl]; omega, trivial, hlen, by omega, b1, trivial, by rw [es_sl, ints_length]; omega, ?_⟩
        rw [hov]
        show _ = tPB _ _
        unfold wipeP wipeE
        rw [hB, if_pos rfl, if_neg g5, decide_eq_false g5, g6]
        rfl
      · show _ = tPB _ _
        unfold wipeP wipeE
        rw [hB, if_pos rfl, if_neg g5, decide_eq_false g5, g6]
        rfl
    · rw [hcut]
      rw [wf] at g5
      have g5 : toN c f < c.size := htb.2.2.2 (of_decide_eq_false g5)
      simp only [take_byts, drop_byts, byts_length, hn0, Int.toNat_natCast]
      refine ⟨by omega, by omega, by simp only [nI, n_byts, hcl]; omega, trivial, hlen, ?_⟩
      rw [hov]
      show _ = tPB _ _
      unfold wipeP wipeE
      rw [hB, if_pos rfl, if_pos g5, decide_eq_true g5]
      rfl
  · unfold wipeB; rw [g4]; simp
end Go.Proofs.Ythmpdfmdhfgaaaa
