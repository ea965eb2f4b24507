/- Who is linked into a room is found there, the newest first, and taken out again all is as it was: the law FnTrees says true of all bytes. No conditions. -/
import Derived.Test.YthmpdfmdhfgaaaaHTj
import Derived.Test.YthmpdfmdhfgaaaaHTf
import Derived.Test.YthmpdfmdhfgaaaaVNB
import Derived.Test.YthmpdfmdhfgaaaaRows
import Derived.Test.YthmpdfmdhfgaaaaChecked
import Derived.ProofKit
namespace Go.Proofs.Ythmpdfmdhfgaaaa
open Go Go.Proofs.Ythmpdfmdhfgaaaa.DL
open Go.ChangeShapes Go.WideShapes Go.ChangeAt Go.RowKit
set_option maxRecDepth 100000

namespace FnTrees
theorem tot_parts {l : List Node} (h : totN l ≤ 1000) : l.length ≤ 1048576 ∧ ∀ n ∈ l, n.sz ≤ 1048576 := by
  have h0 := szs_nonneg l
  unfold totN at h
  refine ⟨by omega, fun n hn => ?_⟩
  obtain ⟨k, hk, rfl⟩ := List.getElem_of_mem hn
  have := szs_at hk
  omega
set_option maxHeartbeats 4000000 in
theorem c_law {v : Value} {a : List Int} (ha : a.length ≤ M63) : CallD Try.prog F_laws_FnTrees [codeS v a] fun r _ => r = bS true := by
  refine k_laws_FnTrees ?_
  unfold vc_laws_FnTrees
  refine ⟨_, c_big, condB_i (fun _ => rfl) fun _ => ?_⟩
  obtain ⟨b, up, k, hb, hup, hk, c1⟩ := c_DrawLink (v := v) ha
  obtain ⟨m, j, hm, hj, c2⟩ := c_DrawUnlink (v := v) ha
  obtain ⟨n, i, hn, hi, c3⟩ := c_DrawRise (v := v) ha
  obtain ⟨d, f, hd, hf, c4⟩ := c_DrawKidsOf (v := v) ha
  obtain ⟨t, ht, c5⟩ := c_DrawTreeOk (v := v) ha
  have hbl := hb.len
  have hnl := hn.len
  have hdl := hd.len
  have htl := ht.len
  have hel : (exB b).length = b.length + 1 := exB_len b
  have hlN : ∀ n ∈ exB b, N1 b.length n := fun n hn => by
    rcases List.mem_append.1 hn with hm | hm
    · exact hb.all n hm
    · rw [List.mem_singleton.1 hm]; exact (newN_N0 hbl.1 (by omega)).to hbl.2
  have hlok : ∀ n ∈ exB b, n.ok := fun n hn => (hlN n hn).ok
  have hlt : totN (exB b) ≤ 100 := by
    rw [totN_zero fun n hn => (hlN n hn).sz]; omega
  have d1 := c_Link (l := exB b) (by omega) up k
  have d2 := c_LinkS (l := exB b) (by omega) hlok hup hk
  obtain ⟨s1, s2⟩ := tot_parts (l := linkL (exB b) up k) (by rw [totN_link]; omega)
  have d3 := c_sameTable s1 s2
  have hmt := hm.tot
  have d4 := c_Unlink (l := m) (by omega) j
  have d5 := c_UnlinkS (l := m) (by omega) hm.ok hj
  obtain ⟨m', em, tm⟩ := unlink_nods m j
  obtain ⟨s3, s4⟩ := tot_parts (l := m') (by omega)
  have d6 := c_sameTable s3 s4
  rw [em] at d4 d5
  have d7 := c_Rise (l := n) (by omega) hi
  have d8 := c_RiseS (l := n) (by omega) hi
  have r1 := rise_len n n.length i
  have d9 := c_sameInts (a := rise n n.length i) (b := rise n n.length i) (by unfold M63; omega)
  rw [decide_eq_true rfl] at d9
  have d10 := c_KidsOf (l := d) (by omega) f
  have d11 := c_KidsOfS (l := d) (by omega) hd.ok hf
  have r2 := kidsL_len d f
  have d12 := c_sameInts (a := kidsL d f) (b := kidsL d f) (by unfold M63; omega)
  rw [decide_eq_true rfl] at d12
  have d13 := c_TreeOk (l := t) (by omega)
  have d14 := c_TreeOkS (l := t) (by omega) ht.ok
  have d15 := c_Alive (l := n) (by omega) hi
  have d16 := c_AliveS (l := n) (by omega) hn.ok hi
  have d17 := c_DeepOf (l := n) (by omega) hi
  have d18 := c_DeepOfS (l := n) (by omega) hi
  have d19 := c_TreeOk (l := exB b) (by omega)
  have d20 := c_Alive (l := exB b) (by omega) hup
  have d21 := c_DeepOf (l := exB b) (by omega) hup
  refine ⟨_, _, _, c1, _, d1, _, _, c2, _, _, c3, _, _, c4, _, c5, _, d2, _, d3, condB_f rfl ⟨_, d4, _, d5, _, d6, condB_f rfl ⟨_, d7, _, d8, _, d9, condB_f rfl ⟨_, d10, _, d11, _, d12, condB_f rfl ⟨_, d13, _, d14, condB_f (by simp) ⟨_, d15, _, d16, condB_f (by simp) ⟨_, d17, _, d18, condB_f (by simp) ⟨_, d19, condB_i (fun _ => rfl) fun g1 => condB_i (fun _ => rfl) fun g2 => condB_i (fun _ => rfl) fun g3 => condB_i (fun _ => rfl) fun g4 => ⟨_, d20, condB_i (fun _ => rfl) fun g5 => ⟨_, d21, condB_i (fun _ => rfl) fun g6 => ?_⟩⟩⟩⟩⟩⟩⟩⟩⟩⟩
  clear c1 c2 c3 c4 c5 d2 d4 d5 d6 d7 d8 d9 d10 d11 d12 d13 d14 d15 d16 d17 d18 d19 d20 d21
  have w0 : IntKind.i64.wrap (nI (DV.sl 13 (nods (exB b))).n - 1) = (b.length : Int) := by
    simp only [nI, n_nodes, hel]; rw [wrap_id] <;> omega
  rw [w0] at g3 g4
  have g2 := of_decide_eq_false g2
  have g3 := of_decide_eq_false g3
  have g4 : k = b.length := by simpa using g4
  obtain ⟨u, rfl⟩ := Int.eq_ofNat_of_zero_le (show 0 ≤ up by omega)
  subst g4
  have h : TH b u := ⟨hbl, hb.all, by omega, by simpa using g1, by simpa using g5, by have := of_decide_eq_false g6; omega⟩
  have hxl : (lk b u).length = b.length + 1 := lk_len b u
  have hxl' : (linkL (exB b) (u : Int) (b.length : Int)).length = b.length + 1 := hxl
  have hel' : (b ++ [newN 0]).length = b.length + 1 := hel
  have hU := h.up
  have gX : (DV.sl 13 (nods (lk b u))).getP [u * 13 + 5] = iV ((b.length : Int) + 1) := by
    refine (getP_one _ _ _).trans ((nget (by omega) (by omega)).trans ?_)
    have e := h.atU
    rw [nodeAt_nat, getD_node (by omega)] at e
    rw [e]; rfl
  have gL : (DV.sl 13 (nods (exB b))).getP [u * 13 + 5] = iV (nodeAt (exB b) (u : Int)).first := by
    refine (getP_one _ _ _).trans ((nget (by omega) (by omega)).trans ?_)
    rw [nodeAt_nat, getD_node (by omega)]; rfl
  have e1 := c_KidsOf (l := lk b u) (by omega) ((b.length : Int) + 1)
  rw [h.kidsX] at e1
  have e2 := c_KidsOf (l := exB b) (by omega) (nodeAt (exB b) (u : Int)).first
  have e3 := c_TreeOk (l := lk b u) (by omega)
  rw [h.treeX] at e3
  have e4 := c_Alive (l := lk b u) (by omega) hk
  rw [h.aliveX] at e4
  have e5 := c_DeepOf (l := lk b u) (by omega) hk
  rw [hxl, h.riseN] at e5
  have e6 := c_DeepOf (l := lk b u) (by omega) hup
  rw [hxl, h.riseE _ _ (by omega)] at e6
  have hdp := h.deep
  rw [hel] at hdp
  have e7 := c_Unlink (l := lk b u) (by rw [totN_link]; omega) b.length
  rw [h.unlinkX] at e7
  obtain ⟨s5, s6⟩ := tot_parts (l := exB b) (by omega)
  have e8 := c_sameTable s5 s6
  have r3 := kidsL_len (exB b) (nodeAt (exB b) (u : Int)).first
  have e9 := c_sameInts (a := kidsL (exB b) (nodeAt (exB b) (u : Int)).first) (b := kidsL (exB b) (nodeAt (exB b) (u : Int)).first) (by unfold M63; omega)
  rw [decide_eq_true rfl] at e9
  generalize hK : kidsL (exB b) (nodeAt (exB b) (u : Int)).first = K at *
  have eD : List.drop (Int.toNat 1 * 1) (List.take (((some (nI (DV.sl 1 (ints ((b.length : Int) :: K))).n)).getD 0).toNat * 1) (ints ((b.length : Int) :: K))) = ints K := by
    simp only [nI, n_ints, Option.getD_some, Int.toNat_natCast, Nat.mul_one]
    rw [List.take_of_length_le (by rw [ints_length]; exact Nat.le_refl _)]
    rfl
  rw [Int.toNat_natCast, gX, gL]
  refine ⟨by omega, by simp only [nI, n_nodes]; omega, ⟨by rw [es_sl, nodes_length]; omega, trivial⟩, rfl, _, e1, by omega, by simp only [nI, n_nodes]; omega, ⟨by rw [es_sl, nodes_length]; omega, trivial⟩, rfl, _, e2, _, e3, condB_t rfl ⟨_, e4, condB_t rfl ⟨_, e5, _, e6, condB_t (decide_eq_true ?_) (condB_t (decide_eq_true ?_) ⟨by omega, ?_, ⟨by rw [es_sl, ints_length]; simp, trivial⟩, rfl, condB_t (decide_eq_true rfl) ⟨by omega, ?_, ?_, ?_⟩⟩)⟩⟩⟩
  · rw [List.length_cons, wrap_id] <;> omega
  · simp only [nI, n_ints, List.length_cons]; omega
  · simp only [nI, n_ints, List.length_cons]; omega
  · simp only [nI, n_ints, List.length_cons, Option.getD_some]; omega
  · exact Int.le_refl _
  · rw [eD]
    exact ⟨_, e9, condB_t rfl ⟨_, e7, _, e8, rfl⟩⟩

theorem lifted (os : Os) (started : os.Started) (H : Type) (enc : TypeId × Value → H) :
    ReturnsInHanded {} Try.checked os F_laws_FnTrees .any (Rows.fnTreesSpec.pre6 enc Try.prog Try.f6 Rows.fnTreesRow.domain false) (Rows.fnTreesSpec.post enc Try.prog Try.f6 false true false false) := by
  refine returnsInHanded_of_change (C := Try.checked) own started (by kernel_rfl) Try.func6
    (ChangeSpec.witness6 (enc := enc) (C := Try.checked) false ⟨#[], #[.slice none 0 0], []⟩ 8 (by kernel_rfl) (by kernel_rfl) (by kernel_rfl) (by kernel_rfl)) ?_
  intro W base args ds gs before hval0 hW hcnd _
  refine law_row (bs := [false]) (bt := 4) laidOut shOk rfl (by kernel_rfl) (by kernel_rfl) (by kernel_rfl) (fun ds h => ?_) (by kernel_rfl) (by kernel_rfl) ?_ hW hval0
  · match ds, h with
    | [_], _ => rfl
  · have e : Try.f6.params.toList = [22] := by kernel_rfl
    rw [e]
    intro ds1 es1 he1 w1
    have e22 : sh 22 = some [.sl [.int .u8]] := by kernel_rfl
    cases e22.symm.trans he1
    obtain ⟨d1, r1, rfl, k1, j1⟩ := cons_inv w1
    cases nil_inv j1
    obtain ⟨code, rfl, hcode, hcode'⟩ := byts_inv k1
    exact callD_of_vl fun v => c_law hcode
end FnTrees
theorem fnTrees_holds : Rows.FnTreesSaid :=
  OpenClaim.holds_of_wide F_laws_FnTrees Try.f6 rfl rfl rfl rfl rfl rfl rfl ⟨rfl, rfl, rfl, rfl, rfl⟩ rfl rfl rfl rfl rfl (by kernel_rfl) Try.func6 (by kernel_rfl)
    (of_decide_eq_true (by kernel_rfl)) (by unfold Func.isWrapper; first | (rw [if_pos (by decide +kernel)]; kernel_rfl) | (rw [if_neg (by decide +kernel)]; exact ⟨rfl, rfl⟩))
    (fun os started H enc _ => FnTrees.lifted os started H enc)
#print axioms fnTrees_holds
end Go.Proofs.Ythmpdfmdhfgaaaa
