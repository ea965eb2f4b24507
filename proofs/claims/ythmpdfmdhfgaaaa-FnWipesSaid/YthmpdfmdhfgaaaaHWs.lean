/- What holds of a pool when some bytes of a chunk are wiped. -/
import Derived.Test.YthmpdfmdhfgaaaaHWq
import Derived.Test.YthmpdfmdhfgaaaaHSl
namespace Go.Proofs.Ythmpdfmdhfgaaaa
open Go Go.Proofs.Ythmpdfmdhfgaaaa.DL
set_option maxRecDepth 100000

theorem zero_part {c : Conf} {sz : Nat} (h : c.size = sz) (l : List Int) (k : Nat) {f t : Nat} (hft : f ≤ t) (_ : t ≤ sz) (hz : zeroB ((chunkL c l k).take f) = true) : zeroB ((chunkL c (wipeL l (k * sz + f) (t - f)) k).take t) = true := by
  rw [zeroB_iff] at hz ⊢
  intro i
  have := hz i
  rw [getD_take', getD_chunk h] at this
  rw [getD_take', getD_chunk h, getD_wipe]
  by_cases h1 : i < t
  · rw [if_pos h1]
    by_cases h2 : i < sz
    · rw [if_pos h2]
      by_cases h3 : i < f
      · rw [if_pos h3, if_pos h2] at this
        rw [if_neg (by omega)]; exact this
      · rw [if_pos (by omega)]
    · rw [if_neg h2]
  · rw [if_neg h1]
/-- The pool after a wiping. -/
structure WipeA (c : Conf) (v : Pool) (k f : Int) : Prop where
  own : (wipeP c v k f).own = v.own
  mem : (wipeP c v k f).mem.length = v.mem.length
  stl : (wipeP c v k f).st.length = v.st.length
  ok : poolOkB c (wipeP c v k f) = true
  part : toN c f < c.size → (wipeP c v k f).st = v.st ∧ zeroB ((chunkL c (wipeP c v k f).mem k.toNat).take (toN c f).toNat) = true
  last : ¬ toN c f < c.size → (wipeP c v k f).st.getD k.toNat 0 = 0 ∧ zeroB (chunkL c (wipeP c v k f).mem k.toNat) = true
  ends : wipeE c v k f = !decide (toN c f < c.size)
theorem poolOk_of {c : Conf} {p : Pool} (h1 : c.good = true) (h2 : (p.mem.length : Int) = bytesOf c) (h3 : (p.st.length : Int) = c.chunks) (h4 : (p.own.length : Int) = c.chunks) (h5 : ∀ j, j < p.st.length → okAt c p j = true) : poolOkB c p = true := by
  unfold poolOkB
  simp only [h1, h2, h3, h4, Bool.true_and, decide_true, List.all_eq_true, List.mem_range]
  exact h5
theorem wipe_A {c : Conf} {v : Pool} {k f : Int} (hB : wipeB c v k f = true) (hz : zeroB ((chunkL c v.mem k.toNat).take f.toNat) = true) : WipeA c v k f := by
  have hW := wipe_S hB
  have hsz := hW.pool.size
  have hszb := hW.pool.szb
  have hf := hW.f
  have hfs := hW.fsz
  have hsl := hW.slice
  have hlt := hW.lt
  have htb : f < toN c f ∧ toN c f ≤ c.size := by unfold toN; split <;> omega
  have hpo : poolOkB c v = true := by unfold wipeB at hB; simp only [Bool.and_eq_true] at hB; exact hB.1
  have hlen : (v.mem.length : Int) = bytesOf c ∧ (v.st.length : Int) = c.chunks ∧ (v.own.length : Int) = c.chunks := by
    unfold poolOkB at hpo
    simp only [Bool.and_eq_true, decide_eq_true_eq] at hpo
    exact ⟨hpo.2.1, hpo.2.2.1, hpo.2.2.2.1⟩
  have hml : (wipeM c v k f).length = v.mem.length := wipeL_length ..
  have hoth : ∀ j, j ≠ k.toNat → zeroB (chunkL c (wipeM c v k f) j) = zeroB (chunkL c v.mem j) := fun j hj => by
    unfold wipeM
    exact zero_other hsz _ hj (by omega)
  have hkk := hW.ok k.toNat hlt
  by_cases ht : toN c f < c.size
  · have e : wipeP c v k f = { v with mem := wipeM c v k f } := by unfold wipeP; rw [if_pos hB, if_pos ht]
    refine ⟨by rw [e], by rw [e]; exact hml, by rw [e], ?_, fun _ => ⟨by rw [e], ?_⟩, fun h => absurd ht h, ?_⟩
    · rw [e]
      refine poolOk_of hW.good (by show ((wipeM c v k f).length : Int) = _; rw [hml]; exact hlen.1) hlen.2.1 hlen.2.2 fun j hj => ?_
      have hj0 := hW.ok j hj
      unfold okAt at hj0 ⊢
      by_cases hjk : j = k.toNat
      · subst hjk
        show (within (v.st.getD k.toNat 0) 0 2 && ((if v.st.getD k.toNat 0 = 1 then within (v.own.getD k.toNat 0) 0 (IntKind.i64.wrap (c.slots - 1)) else decide (v.own.getD k.toNat 0 = -1)) && (if v.st.getD k.toNat 0 = 0 then zeroB (chunkL c (wipeM c v k f) k.toNat) else true))) = true
        rw [hW.st] at hj0 ⊢
        simpa using hj0
      · show (within (v.st.getD j 0) 0 2 && ((if v.st.getD j 0 = 1 then within (v.own.getD j 0) 0 (IntKind.i64.wrap (c.slots - 1)) else decide (v.own.getD j 0 = -1)) && (if v.st.getD j 0 = 0 then zeroB (chunkL c (wipeM c v k f) j) else true))) = true
        rw [hoth j hjk]; exact hj0
    · rw [e]
      have : (toN c f - f).toNat = (toN c f).toNat - f.toNat := by omega
      show zeroB ((chunkL c (wipeM c v k f) k.toNat).take (toN c f).toNat) = true
      unfold wipeM
      rw [this]
      exact zero_part hsz _ _ (by omega) (by omega) hz
    · unfold wipeE; rw [hB, decide_eq_true ht]; rfl
  · have e : wipeP c v k f = { v with mem := wipeM c v k f, st := v.st.set k.toNat 0 } := by unfold wipeP; rw [if_pos hB, if_neg ht, if_pos hz]
    have hzz : zeroB (chunkL c (wipeM c v k f) k.toNat) = true := by
      have : (toN c f - f).toNat = c.size.toNat - f.toNat := by omega
      unfold wipeM
      rw [this, zero_end hsz _ _ (by omega)]
      exact hz
    have hg0 : (v.st.set k.toNat 0).getD k.toNat 0 = 0 := by rw [getD_eq (by rw [List.length_set]; exact hlt), List.getElem_set_self]
    refine ⟨by rw [e], by rw [e]; exact hml, by rw [e]; simp only [List.length_set], ?_, fun h => absurd h ht, fun _ => ⟨?_, ?_⟩, ?_⟩
    · rw [e]
      refine poolOk_of hW.good (by show ((wipeM c v k f).length : Int) = _; rw [hml]; exact hlen.1) (by simp only [List.length_set]; exact hlen.2.1) hlen.2.2 fun j hj => ?_
      simp only [List.length_set] at hj
      have hj0 := hW.ok j hj
      unfold okAt at hj0 ⊢
      show (within ((v.st.set k.toNat 0).getD j 0) 0 2 && ((if (v.st.set k.toNat 0).getD j 0 = 1 then within (v.own.getD j 0) 0 (IntKind.i64.wrap (c.slots - 1)) else decide (v.own.getD j 0 = -1)) && (if (v.st.set k.toNat 0).getD j 0 = 0 then zeroB (chunkL c (wipeM c v k f) j) else true))) = true
      by_cases hjk : j = k.toNat
      · subst hjk
        rw [hg0, hzz]
        rw [hW.st] at hj0
        have ho : v.own.getD k.toNat 0 = -1 := by simpa [within] using hj0
        rw [ho]
        simp [within]
      · have : (v.st.set k.toNat 0).getD j 0 = v.st.getD j 0 := by
          simp only [List.getD_eq_getElem?_getD]
          rw [List.getElem?_set_ne (fun h => hjk h.symm)]
        rw [this, hoth j hjk]; exact hj0
    · rw [e]; exact hg0
    · rw [e]; exact hzz
    · unfold wipeE; rw [hB, decide_eq_false ht, hz]; rfl
end Go.Proofs.Ythmpdfmdhfgaaaa
