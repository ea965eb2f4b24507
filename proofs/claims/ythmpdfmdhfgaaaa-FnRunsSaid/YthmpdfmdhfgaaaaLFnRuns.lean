/- Chunks taken are no longer free, and the runs hold all free chunks: the law FnRuns says true of all bytes. No conditions. -/
import Derived.Test.YthmpdfmdhfgaaaaHRo
import Derived.Test.YthmpdfmdhfgaaaaHSc
import Derived.Test.YthmpdfmdhfgaaaaVN9
import Derived.Test.YthmpdfmdhfgaaaaRows
import Derived.Test.YthmpdfmdhfgaaaaChecked
import Derived.ProofKit
namespace Go.Proofs.Ythmpdfmdhfgaaaa
open Go Go.Proofs.Ythmpdfmdhfgaaaa.DL
open Go.ChangeShapes Go.WideShapes Go.ChangeAt Go.RowKit
set_option maxRecDepth 100000

namespace FnRuns
set_option maxHeartbeats 4000000 in
theorem c_law {v : Value} {a : List Int} (ha : a.length ≤ M63) : CallD Try.prog F_laws_FnRuns [codeS v a] fun r _ => r = bS true := by
  refine k_laws_FnRuns ?_
  unfold vc_laws_FnRuns
  refine ⟨_, c_big, condB_i (fun _ => rfl) fun _ => ?_⟩
  obtain ⟨p, b, n, s, ⟨hp, hb, hn⟩, c1⟩ := c_DrawTakeRun (v := v) ha
  obtain ⟨q, m, hq, c2⟩ := c_DrawFirstRun (v := v) ha
  have hpc := hp.c
  have hqc := hq.c
  have hps := hp.st
  have hqs := hq.st
  have hpo := hp.own
  have hpm := hp.mem
  have lX : (takP p b n s).mem.length ≤ M63 ∧ (takP p b n s).st.length ≤ 12 ∧ (takP p b n s).own.length ≤ 12 := by
    cases e : takB p b n with
    | false => rw [takP_no s e]; exact ⟨by unfold M63; omega, hps, hpo⟩
    | true =>
      obtain ⟨t1, t2⟩ := Bool.and_eq_true_iff.1 e
      have t2 := of_decide_eq_true t2
      have f4 := (free_iff.1 t1).2.2.1
      unfold takP
      rw [if_pos e]
      refine ⟨by unfold M63; simp only; omega, ?_, ?_⟩
      · simp only; rw [setR_length f4]; exact hps
      · simp only; rw [setR_length (by omega)]; exact hpo
  obtain ⟨x1, x2, x3⟩ := lX
  have d1 := c_TakeRun hpc hb hn s
  have d2 := c_FirstRun (p := q) (by omega) m
  have d3 := c_Runs (p := q) (by omega)
  have d4 := c_TakeRunS hpc b n s
  have d5 := c_samePool (p := takP p b n s) (q := takP p b n s) x1 (by unfold M63; omega) (by unfold M63; omega)
  rw [samePB_self] at d5
  have d6 := c_FirstRunS (p := q) (by omega) m
  have d7 := c_RunsS (p := q) (by omega)
  have hlen := rn_len (st := q.st) q.st.length
  have d8 := c_sameInts (a := (rnR q.st q.st.length).map (·.2)) (b := (rnR q.st q.st.length).map (·.2)) (by rw [List.length_map]; unfold M63; omega)
  rw [decide_eq_true rfl] at d8
  have d9 := c_LongestRun (p := q) (by omega)
  have d10 := c_LongestRunS (p := q) (by omega)
  have d11 := c_CountOf (p := q) (by omega) 0
  have d12 := c_samePool (p := takP p b n s) (q := p) x1 (by unfold M63; omega) (by unfold M63; omega)
  have d13 := c_CountOf (p := takP p b n s) (by omega) 0
  have d14 := c_CountOf (p := p) (by omega) 0
  have d15 := c_CountOf (p := takP p b n s) (by omega) 1
  have d16 := c_CountOf (p := p) (by omega) 1
  have d17 := c_OwnedBy (p := takP p b n s) (by omega) (by omega) s
  have ol := owned_le (takP p b n s) s (poolN (takP p b n s))
  have pl : poolN (takP p b n s) ≤ 12 := by unfold poolN; omega
  have d18 := c_in (l := ownedL (takP p b n s) s (poolN (takP p b n s))) (by unfold M63; omega) b
  have hsum := sum_len (st := q.st) q.st.length (Nat.le_refl _)
  rw [List.take_length] at hsum
  have hfl := fun hm => first_longest (st := q.st) (m := m) hm
  have hL : ∀ x ∈ (rnR q.st q.st.length).map (·.2), 0 ≤ x ∧ x ≤ 12 := fun x hx => by
    obtain ⟨y, hy, rfl⟩ := List.mem_map.1 hx
    have := rn_mem hy
    omega
  have hlm : ((rnR q.st q.st.length).map (·.2)).length ≤ 12 := by rw [List.length_map]; omega
  refine ⟨_, _, _, _, _, _, c1, _, _, _, d1, _, _, _, _, c2, _, d2, _, d3, ?_⟩
  generalize (rnR q.st q.st.length).map (·.2) = L at *
  simp only [nI, n_ints, getPS, Nat.mul_one]
  refine ⟨fun z i t => ∃ k : Nat, i = k ∧ k ≤ L.length ∧ t = L.length - k ∧ z = (L.take k).sum, ⟨_, 0, rfl, Nat.zero_le _, rfl, rfl⟩, ?_⟩
  rintro z i t ⟨k, rfl, hk, rfl, rfl⟩
  obtain ⟨b1, b2⟩ := sum_bd (l := L.take k) fun x hx => hL x (List.mem_of_mem_take hx)
  have w1 : IntKind.i64.wrap ((k : Int) + 1) = ((k + 1 : Nat) : Int) := by rw [wrap_id] <;> omega
  rw [w1]
  refine condB_i (fun g => ?_) fun g => ?_
  · have g := of_decide_eq_true g
    have hlt : k < L.length := by omega
    have hx := hL _ (List.getElem_mem hlt)
    have lt : (L.take k).length = k := by rw [List.length_take]; omega
    rw [lt] at b2
    simp only [Int.toNat_natCast, getD_ints hlt, getD_eq hlt, asI_iV]
    refine ⟨by omega, g, ⟨by rw [es_sl, ints_length]; exact hlt, trivial⟩, rfl, ⟨trivial, trivial, trivial, trivial, trivial, trivial, trivial, trivial, trivial⟩, L.length - (k + 1), by omega, k + 1, rfl, by omega, rfl, ?_⟩
    rw [wrap_id (by omega) (by omega), List.take_succ_eq_append_getElem hlt, List.sum_append]
    simp
  · have g := of_decide_eq_false g
    have : k = L.length := by omega
    subst this
    rw [List.take_length] at b1 b2 ⊢
    refine ⟨_, _, _, d4, _, d5, condB_f rfl ⟨_, d6, condB_f (by simp) ⟨_, d7, _, d8, condB_f rfl ⟨_, d9, _, d10, condB_f (by simp) ⟨_, d11, condB_f (by rw [decide_eq_true hsum]; rfl) (condB_i (fun hm => ?_) fun _ => ?_)⟩⟩⟩⟩⟩
    · have e0 : decide (0 ≤ firstS q.st m) = decide (m ≤ mxL L) := decide_eq_decide.2 (hfl (of_decide_eq_true hm))
      refine ⟨_, d9, condB_f (by rw [e0]; simp) ?_⟩
      refine ⟨_, d12, condB_i (fun _ => trivial) fun g => ?_⟩
      have hT : takB p b n = true := by
        cases e : takB p b n with
        | true => rfl
        | false => rw [takP_no s e, samePB_self] at g; cases g
      obtain ⟨t1, t2⟩ := Bool.and_eq_true_iff.1 hT
      have t2 := of_decide_eq_true t2
      obtain ⟨f1, f2, f3⟩ := free_iff.1 t1
      have eP : takP p b n s = { p with st := setR p.st b.toNat n.toNat 1, own := setR p.own b.toNat n.toNat s } := by unfold takP; rw [if_pos hT]
      have k0 := setR_count f3 1 0
      have k1 := setR_count f3 1 1
      rw [if_pos rfl, if_neg (by decide)] at k0
      rw [if_neg (by decide), if_pos rfl] at k1
      have f4 := f3.1
      have e1 := List.count_le_length (a := (0 : Int)) (l := p.st)
      have e2 := List.count_le_length (a := (1 : Int)) (l := p.st)
      have l1 := setR_length (l := p.st) (v := 1) f4
      have l2 := setR_length (l := p.own) (a := b.toNat) (n := n.toNat) (v := s) (by omega)
      refine ⟨_, d13, _, d14, condB_t (decide_eq_true ?_) ⟨_, d15, _, d16, condB_t (decide_eq_true ?_) ⟨_, d17, _, d18, bS_eq ?_⟩⟩⟩
      · rw [wrap_id (by omega) (by omega), eP]
        simp only
        omega
      · rw [wrap_id (by omega) (by omega), eP]
        simp only
        omega
      · unfold has
        rw [List.any_eq_true]
        refine ⟨b, List.mem_map.2 ⟨b.toNat, List.mem_filter.2 ⟨List.mem_range.2 ?_, ?_⟩, by omega⟩, by simp⟩
        · rw [eP]
          unfold poolN
          simp only
          omega
        · rw [eP]
          simp only
          rw [setR_get f4 (by omega), setR_get (by omega) (by omega)]
          simp
    · refine ⟨_, d12, condB_i (fun _ => trivial) fun g => ?_⟩
      have hT : takB p b n = true := by
        cases e : takB p b n with
        | true => rfl
        | false => rw [takP_no s e, samePB_self] at g; cases g
      obtain ⟨t1, t2⟩ := Bool.and_eq_true_iff.1 hT
      have t2 := of_decide_eq_true t2
      obtain ⟨f1, f2, f3⟩ := free_iff.1 t1
      have eP : takP p b n s = { p with st := setR p.st b.toNat n.toNat 1, own := setR p.own b.toNat n.toNat s } := by unfold takP; rw [if_pos hT]
      have k0 := setR_count f3 1 0
      have k1 := setR_count f3 1 1
      rw [if_pos rfl, if_neg (by decide)] at k0
      rw [if_neg (by decide), if_pos rfl] at k1
      have f4 := f3.1
      have e1 := List.count_le_length (a := (0 : Int)) (l := p.st)
      have e2 := List.count_le_length (a := (1 : Int)) (l := p.st)
      have l1 := setR_length (l := p.st) (v := 1) f4
      have l2 := setR_length (l := p.own) (a := b.toNat) (n := n.toNat) (v := s) (by omega)
      refine ⟨_, d13, _, d14, condB_t (decide_eq_true ?_) ⟨_, d15, _, d16, condB_t (decide_eq_true ?_) ⟨_, d17, _, d18, bS_eq ?_⟩⟩⟩
      · rw [wrap_id (by omega) (by omega), eP]
        simp only
        omega
      · rw [wrap_id (by omega) (by omega), eP]
        simp only
        omega
      · unfold has
        rw [List.any_eq_true]
        refine ⟨b, List.mem_map.2 ⟨b.toNat, List.mem_filter.2 ⟨List.mem_range.2 ?_, ?_⟩, by omega⟩, by simp⟩
        · rw [eP]
          unfold poolN
          simp only
          omega
        · rw [eP]
          simp only
          rw [setR_get f4 (by omega), setR_get (by omega) (by omega)]
          simp

theorem lifted (os : Os) (started : os.Started) (H : Type) (enc : TypeId × Value → H) :
    ReturnsInHanded {} Try.checked os F_laws_FnRuns .any (Rows.fnRunsSpec.pre6 enc Try.prog Try.f3 Rows.fnRunsRow.domain false) (Rows.fnRunsSpec.post enc Try.prog Try.f3 false true false false) := by
  refine returnsInHanded_of_change (C := Try.checked) own started (by kernel_rfl) Try.func3
    (ChangeSpec.witness6 (enc := enc) (C := Try.checked) false ⟨#[], #[.slice none 0 0], []⟩ 8 (by kernel_rfl) (by kernel_rfl) (by kernel_rfl) (by kernel_rfl)) ?_
  intro W base args ds gs before hval0 hW hcnd _
  refine law_row (bs := [false]) (bt := 4) laidOut shOk rfl (by kernel_rfl) (by kernel_rfl) (by kernel_rfl) (fun ds h => ?_) (by kernel_rfl) (by kernel_rfl) ?_ hW hval0
  · match ds, h with
    | [_], _ => rfl
  · have e : Try.f3.params.toList = [22] := by kernel_rfl
    rw [e]
    intro ds1 es1 he1 w1
    have e22 : sh 22 = some [.sl [.int .u8]] := by kernel_rfl
    cases e22.symm.trans he1
    obtain ⟨d1, r1, rfl, k1, j1⟩ := cons_inv w1
    cases nil_inv j1
    obtain ⟨code, rfl, hcode, hcode'⟩ := byts_inv k1
    exact callD_of_vl fun v => c_law hcode
end FnRuns
theorem fnRuns_holds : Rows.FnRunsSaid :=
  OpenClaim.holds_of_wide F_laws_FnRuns Try.f3 rfl rfl rfl rfl rfl rfl rfl ⟨rfl, rfl, rfl, rfl, rfl⟩ rfl rfl rfl rfl rfl (by kernel_rfl) Try.func3 (by kernel_rfl)
    (of_decide_eq_true (by kernel_rfl)) (by unfold Func.isWrapper; first | (rw [if_pos (by decide +kernel)]; kernel_rfl) | (rw [if_neg (by decide +kernel)]; exact ⟨rfl, rfl⟩))
    (fun os started H enc _ => FnRuns.lifted os started H enc)
#print axioms fnRuns_holds
end Go.Proofs.Ythmpdfmdhfgaaaa
