/- A chunk that waits is free once all its bytes are wiped, and then they are 0: the law FnWipes says true of all bytes. No conditions. -/
import Derived.Test.YthmpdfmdhfgaaaaHWr
import Derived.Test.YthmpdfmdhfgaaaaHWs
import Derived.Test.YthmpdfmdhfgaaaaVNA
import Derived.Test.YthmpdfmdhfgaaaaRows
import Derived.Test.YthmpdfmdhfgaaaaChecked
import Derived.ProofKit
namespace Go.Proofs.Ythmpdfmdhfgaaaa
open Go Go.Proofs.Ythmpdfmdhfgaaaa.DL
open Go.ChangeShapes Go.WideShapes Go.ChangeAt Go.RowKit
set_option maxRecDepth 100000

namespace FnWipes
theorem wipeP_len (c : Conf) (p : Pool) (k f : Int) : (wipeP c p k f).mem.length = p.mem.length ∧ (wipeP c p k f).st.length = p.st.length ∧ (wipeP c p k f).own.length = p.own.length := by
  have h : (wipeM c p k f).length = p.mem.length := wipeL_length ..
  unfold wipeP
  split
  · split
    · exact ⟨h, rfl, rfl⟩
    · split
      · exact ⟨h, by simp only [List.length_set], rfl⟩
      · exact ⟨rfl, rfl, rfl⟩
  · exact ⟨rfl, rfl, rfl⟩
theorem goP_len (p : Pool) (k : Int) : (goP p k).mem.length = p.mem.length ∧ (goP p k).st.length = p.st.length ∧ (goP p k).own.length = p.own.length := by
  unfold goP
  split
  · exact ⟨rfl, by simp only [List.length_set], by simp only [List.length_set]⟩
  · exact ⟨rfl, rfl, rfl⟩
theorem ceil_eq {s l t i : Int} (hs : 0 ≤ s ∧ s ≤ 16) (hl : 1 ≤ l ∧ l ≤ 16) (ht : 0 ≤ t) (e : i = t * l) (h1 : s ≤ i) (h2 : i - l < s) : ceilDiv s l = t := by
  unfold ceilDiv
  rw [within_iff.2 (by omega), within_iff.2 (by omega)]
  simp only [Bool.and_self, if_true]
  rw [wrap_id (n := s + l) (by omega) (by omega), wrap_id (n := s + l - 1) (by omega) (by omega), Int.tdiv_eq_ediv_of_nonneg (by omega)]
  have e2 : s + l - 1 = (s + l - 1 - i) + t * l := by omega
  rw [e2, Int.add_mul_ediv_right _ _ (by omega), Int.ediv_eq_zero_of_lt (by omega) (by omega), Int.zero_add]
  have : t * 1 ≤ t * l := Int.mul_le_mul_of_nonneg_left hl.1 ht
  rw [wrap_id (by omega) (by omega)]
set_option maxHeartbeats 4000000 in
theorem c_law {v : Value} {a : List Int} (ha : a.length ≤ M63) : CallD Try.prog F_laws_FnWipes [codeS v a] fun r _ => r = bS true := by
  refine k_laws_FnWipes ?_
  unfold vc_laws_FnWipes
  refine ⟨_, c_big, condB_i (fun _ => rfl) fun _ => ?_⟩
  obtain ⟨c, p, k, f, hp, c1⟩ := c_DrawWipeSome (v := v) ha
  obtain ⟨q, j, hq, c2⟩ := c_DrawLetGo (v := v) ha
  have hpc := hp.c
  have hqc := hq.c
  obtain ⟨n1, n2, n3⟩ := wipeP_len c p k f
  obtain ⟨o1, o2, o3⟩ := goP_len q j
  have l1 := hpc.mem
  have l2 := hpc.st
  have l3 := hpc.own
  have l4 := hqc.mem
  have l5 := hqc.st
  have l6 := hqc.own
  have d1 := c_WipeSome c hpc k f
  have d2 := c_WipeSomeS c hpc k f
  have d3 := c_LetGo hqc j
  have d4 := c_LetGoS hqc j
  have d5 := c_samePool (p := wipeP c p k f) (q := wipeP c p k f) (by unfold M63; omega) (by unfold M63; omega) (by unfold M63; omega)
  have d6 := c_samePool (p := goP q j) (q := goP q j) (by unfold M63; omega) (by unfold M63; omega) (by unfold M63; omega)
  rw [samePB_self] at d5 d6
  have d7 := c_PoolOk c p
  have d8 := c_samePool (p := wipeP c p k f) (q := p) (by unfold M63; omega) (by unfold M63; omega) (by unfold M63; omega)
  have fa : wipeB c p k f = false → samePB (wipeP c p k f) p = true ∧ (!wipeE c p k f) = true := fun h => by
    have e1 : wipeP c p k f = p := by unfold wipeP; rw [h]; rfl
    have e2 : wipeE c p k f = false := by unfold wipeE; rw [h]; rfl
    rw [e1, e2]; exact ⟨samePB_self p, rfl⟩
  refine ⟨_, _, _, _, _, _, _, _, _, _, _, c1, _, _, _, _, d1, _, _, _, _, d2, _, _, _, _, c2, _, _, _, d3, _, d5, condB_f rfl (condB_f (by simp) ⟨_, _, _, d4, _, d6, condB_f rfl ⟨_, d7, ?_⟩⟩)⟩
  refine condB_i (fun g1 => ⟨_, d8, condB_t (fa ?_).1 (bS_eq (fa ?_).2)⟩) fun g1 => ?_
  · unfold wipeB; simp at g1; simp [g1]
  · unfold wipeB; simp at g1; simp [g1]
  have g1 : poolOkB c p = true := by simpa using g1
  obtain ⟨hg, hS, hok⟩ := poolOk_S g1
  obtain ⟨⟨s1, s2⟩, ⟨s3, s4⟩, -, -, ⟨s5, s6⟩, -⟩ := Conf.good_iff.1 hg
  have hst := hS.st
  have wc : IntKind.i64.wrap (c.chunks - 1) = c.chunks - 1 := wrap_id (by omega) (by omega)
  refine condB_i (fun g2 => ⟨_, d8, condB_t (fa ?_).1 (bS_eq (fa ?_).2)⟩) fun g2 => ?_
  · have := of_decide_eq_true g2
    unfold wipeB; rw [within_false.2 (show ¬ (0 ≤ k ∧ k ≤ IntKind.i64.wrap (c.chunks - 1)) by omega)]; simp
  · have := of_decide_eq_true g2
    unfold wipeB; rw [within_false.2 (show ¬ (0 ≤ k ∧ k ≤ IntKind.i64.wrap (c.chunks - 1)) by omega)]; simp
  have g2 := of_decide_eq_false g2
  refine condB_i (fun g3 => ⟨_, d8, condB_t (fa ?_).1 (bS_eq (fa ?_).2)⟩) fun g3 => ?_
  · have := of_decide_eq_true g3
    unfold wipeB; rw [within_false.2 (show ¬ (0 ≤ k ∧ k ≤ IntKind.i64.wrap (c.chunks - 1)) by omega)]; simp
  · have := of_decide_eq_true g3
    unfold wipeB; rw [within_false.2 (show ¬ (0 ≤ k ∧ k ≤ IntKind.i64.wrap (c.chunks - 1)) by omega)]; simp
  have g3 := of_decide_eq_false g3
  have hk : k.toNat < p.st.length := by omega
  have hw : within k 0 (IntKind.i64.wrap (c.chunks - 1)) = true := within_iff.2 (by omega)
  simp only [nI, n_ints, Nat.mul_one, getP1, getD_ints hk, isI_iV, asI_iV]
  refine ⟨by omega, by omega, ⟨(by decide : 0 + 1 < 3), (by show k.toNat < (ints p.st).length; rw [ints_length]; exact hk), trivial⟩, trivial, condB_i (fun g4 => ⟨_, d8, condB_t (fa ?_).1 (bS_eq (fa ?_).2)⟩) fun g4 => ?_⟩
  · unfold wipeB; simp at g4; simp [g4]
  · unfold wipeB; simp at g4; simp [g4]
  have g4 : p.st.getD k.toNat 0 = 2 := by simpa using g4
  refine ⟨fun a b d n i m => ∃ (t : Nat) (w : Pool), n = t ∧ i = (t : Int) * c.slice ∧ m = (c.size - i).toNat ∧ a = byts w.mem ∧ b = ints w.st ∧ d = ints w.own ∧ PoolC w ∧ w.st.length = p.st.length ∧ poolOkB c w = true ∧ ((t : Int) ≤ i ∧ i ≤ 32) ∧
    (i < c.size → w.st.getD k.toNat 0 = 2 ∧ zeroB ((chunkL c w.mem k.toNat).take i.toNat) = true) ∧ (c.size ≤ i → i - c.slice < c.size ∧ w.st.getD k.toNat 0 = 0 ∧ zeroB (chunkL c w.mem k.toNat) = true), ⟨_, 0, p, rfl, by simp, rfl, rfl, rfl, rfl, hpc, rfl, g1, by omega, fun _ => ⟨g4, by simp [zeroB]⟩, fun h => by omega⟩, ?_⟩
  rintro a b d n i m ⟨t, w, rfl, hi, rfl, rfl, rfl, rfl, hwc, hwl, hwo, ⟨hti, hi32⟩, hin, hout⟩
  have hwm := hwc.mem
  refine condB_i (fun g5 => ?_) fun g5 => ?_
  · have g5 := of_decide_eq_true g5
    obtain ⟨h1, h2⟩ := hin g5
    have hB : wipeB c w k i = true := by
      unfold wipeB
      rw [hwo, hw, h1, within_iff.2 (show 0 ≤ i ∧ i ≤ IntKind.i64.wrap (c.size - 1) by rw [wrap_id (by omega) (by omega)]; omega)]
      rfl
    have hA := wipe_A hB h2
    have wi : IntKind.i64.wrap (i + c.slice) = i + c.slice := wrap_id (by omega) (by omega)
    have wt : IntKind.i64.wrap ((t : Int) + 1) = ((t + 1 : Nat) : Int) := by rw [wrap_id] <;> omega
    have e1 : ((t + 1 : Nat) : Int) * c.slice = i + c.slice := by rw [hi]; show ((t : Int) + 1) * c.slice = _; rw [Int.add_mul, Int.one_mul]
    have ht : (toN c i < c.size ∧ i + c.slice < c.size ∧ toN c i = i + c.slice) ∨ (¬ toN c i < c.size ∧ c.size ≤ i + c.slice) := by unfold toN; split <;> omega
    refine ⟨_, _, _, _, c_WipeSome c hwc k i, condB_f ?_ ⟨⟨trivial, trivial⟩, (c.size - (i + c.slice)).toNat, by omega, t + 1, wipeP c w k i, wt, by rw [wi, e1], by rw [wi], rfl, rfl, rfl, ⟨by rw [hA.mem]; exact hwc.mem, by rw [hA.stl]; exact hwc.st, by rw [hA.own]; exact hwc.own⟩, by rw [hA.stl]; exact hwl, hA.ok, ?_, ?_, ?_⟩⟩
    · rw [hA.ends, wi]
      rcases ht with ⟨t1, t2, -⟩ | ⟨t1, t2⟩
      · rw [decide_eq_true t1, decide_eq_false (show ¬ c.size ≤ i + c.slice by omega)]; rfl
      · rw [decide_eq_false t1, decide_eq_true t2]; rfl
    · rw [wi]; omega
    · intro h
      rw [wi] at h
      rcases ht with ⟨t1, t2, t3⟩ | ⟨t1, t2⟩
      · obtain ⟨p1, p2⟩ := hA.part t1
        rw [wi, p1]
        rw [t3] at p2
        exact ⟨h1, p2⟩
      · omega
    · intro h
      rw [wi] at h ⊢
      rcases ht with ⟨t1, t2, t3⟩ | ⟨t1, t2⟩
      · omega
      · obtain ⟨p1, p2⟩ := hA.last t1
        exact ⟨by omega, p1, p2⟩
  · have g5 := of_decide_eq_false g5
    obtain ⟨h1, h2, h3⟩ := hout (by omega)
    have hk' : k.toNat < w.st.length := by omega
    have hr : chunkR c w k = chunkL c w.mem k.toNat := by unfold chunkR; rw [hwo, hw]; rfl
    have hz := c_IsZero (l := chunkR c w k) (Nat.le_trans (chunkR_le ..) (by unfold M63; omega))
    have he : zeroB (chunkR c w k) = true := by rw [hr]; exact h3
    have hpo := c_PoolOk c w
    rw [hwo] at hpo
    simp only [n_ints, getD_ints hk', isI_iV, asI_iV]
    exact ⟨_, c_SlicesOf c c.size, condB_t (decide_eq_true (ceil_eq (by omega) (by omega) (by omega) hi (by omega) h1).symm) ⟨by omega, by omega, ⟨(by decide : 0 + 1 < 3), (by show k.toNat < (ints w.st).length; rw [ints_length]; exact hk'), trivial⟩, trivial, condB_t (decide_eq_true h2) ⟨_, c_ChunkBytes c (p := w) (by omega) k, _, hz, condB_t he ⟨_, hpo, rfl⟩⟩⟩⟩

theorem lifted (os : Os) (started : os.Started) (H : Type) (enc : TypeId × Value → H) :
    ReturnsInHanded {} Try.checked os F_laws_FnWipes .any (Rows.fnWipesSpec.pre6 enc Try.prog Try.f4 Rows.fnWipesRow.domain false) (Rows.fnWipesSpec.post enc Try.prog Try.f4 false true false false) := by
  refine returnsInHanded_of_change (C := Try.checked) own started (by kernel_rfl) Try.func4
    (ChangeSpec.witness6 (enc := enc) (C := Try.checked) false ⟨#[], #[.slice none 0 0], []⟩ 8 (by kernel_rfl) (by kernel_rfl) (by kernel_rfl) (by kernel_rfl)) ?_
  intro W base args ds gs before hval0 hW hcnd _
  refine law_row (bs := [false]) (bt := 4) laidOut shOk rfl (by kernel_rfl) (by kernel_rfl) (by kernel_rfl) (fun ds h => ?_) (by kernel_rfl) (by kernel_rfl) ?_ hW hval0
  · match ds, h with
    | [_], _ => rfl
  · have e : Try.f4.params.toList = [22] := by kernel_rfl
    rw [e]
    intro ds1 es1 he1 w1
    have e22 : sh 22 = some [.sl [.int .u8]] := by kernel_rfl
    cases e22.symm.trans he1
    obtain ⟨d1, r1, rfl, k1, j1⟩ := cons_inv w1
    cases nil_inv j1
    obtain ⟨code, rfl, hcode, hcode'⟩ := byts_inv k1
    exact callD_of_vl fun v => c_law hcode
end FnWipes
theorem fnWipes_holds : Rows.FnWipesSaid :=
  OpenClaim.holds_of_wide F_laws_FnWipes Try.f4 rfl rfl rfl rfl rfl rfl rfl ⟨rfl, rfl, rfl, rfl, rfl⟩ rfl rfl rfl rfl rfl (by kernel_rfl) Try.func4 (by kernel_rfl)
    (of_decide_eq_true (by kernel_rfl)) (by unfold Func.isWrapper; first | (rw [if_pos (by decide +kernel)]; kernel_rfl) | (rw [if_neg (by decide +kernel)]; exact ⟨rfl, rfl⟩))
    (fun os started H enc _ => FnWipes.lifted os started H enc)
#print axioms fnWipes_holds
end Go.Proofs.Ythmpdfmdhfgaaaa
