/- Contracts of small functions: regions left, and gone. -/
import Derived.Test.YtmnfcahbmlfccaaHLv
import Derived.Test.YtmnfcahbmlfccaaHPb
import Derived.Test.YtmnfcahbmlfccaaVHLw
namespace Go.Proofs.Ytmnfcahbmlfccaa
open Go Go.Proofs.Ytmnfcahbmlfccaa.DL
set_option maxRecDepth 100000

def goneN (n : Node) : Node := ⟨2, n.gen, 0, 0, 0, 0, 0, 0, [], 0, 0, [], []⟩
theorem c_GoneW (n : Node) : CallD Try.prog F_impl_Gone [rNode n] fun r _ => r = oNode (goneN n) := k_impl_Gone rfl
theorem c_GoneWS (n : Node) : CallD Try.prog F_spec_Gone [rNode n] fun r _ => r = oNode (goneN n) := k_spec_Gone rfl
theorem unlink_len (l : List Node) (k : Int) : (unlinkD l k).length = (nods l).length := by
  unfold unlinkD
  split
  · unfold unD unB unA
    repeat' split
    all_goals simp only [List.length_set]
  · rfl
theorem unlink_ex (l : List Node) (k : Int) : ∃ l', unlinkD l k = nods l' ∧ totN l' = totN l ∧ l'.length = l.length := by
  obtain ⟨l', e, e2⟩ := unlink_nods l k
  have h := unlink_len l k
  rw [e, nodes_length, nodes_length] at h
  exact ⟨l', e, e2, by omega⟩
def outW (w : World') (k : Nat) (n : Node) (l : List Node) : World' := ⟨w.c, letAll w.p n.chunks, l.set k (goneN (l.getD k zeroN)), w.q ++ [wasteN n (IntKind.i64.wrap ((k : Int) + 1))], w.log⟩
def leaveW (w : World') (k : Int) (l : List Node) : World' := if liveW w k then outW w k.toNat (w.l.getD k.toNat zeroN) l else w
set_option maxHeartbeats 4000000 in
theorem c_l14Leave {w : World'} (h : WOk w) (hok : ∀ n ∈ w.l, n.ok) {k : Nat} (hk : k < w.l.length) {l : List Node} (hl : unlinkD w.l k = nods l) (hll : l.length = w.l.length) :
    CallD Try.prog F_spec_l14Leave [bWorld w, iS k] fun r bs => r = SV.tup [] ∧ bs.getD 0 .dead = bWorld (outW w k w.l[k] l) := by
  have hkl : k < l.length := by omega
  obtain ⟨c0, c1, c2, c3, c4, c5, c6, c7, c8, c9, c10, c11, c12⟩ := ncells hk
  obtain ⟨d0, d1, d2, d3, d4, d5, d6, d7, d8, d9, d10, d11, d12⟩ := ncells hkl
  have hP : ∀ (p : Pool) (l : List Node) (x : Nat), x < (nods l).length → placeOk (bWorld ⟨w.c, p, l, w.q, w.log⟩) [9, x] := fun p l x hx => plc9 (w := ⟨w.c, p, l, w.q, w.log⟩) hx
  have hL := nodes_length w.l
  have hL' := nodes_length l
  have hq := h.q
  unfold totQ at hq
  have hq0 := szq_nonneg w.q
  have hn := h.l
  have hn0 := szs_nonneg w.l
  unfold totN at hn
  have hU := c_UnlinkS h.l hok (k := (k : Int)) (by unfold I64; omega)
  rw [hl] at hU
  refine k_spec_l14Leave ?_
  unfold vc_spec_l14Leave
  simp only [nI, n_nodes, Int.toNat_natCast, Nat.add_assoc, Nat.reduceAdd, getP_one, c0, c1, c2, c3, c4, c5, c6, c7, c8, c9, c10, c11, c12, isI_iV, asI_iV, isL_sl, es_sl]
  refine ⟨by omega, by omega, hP _ _ _ (by omega), trivial, hP _ _ _ (by omega), trivial, hP _ _ _ (by omega), trivial, hP _ _ _ (by omega), trivial, hP _ _ _ (by omega), trivial, hP _ _ _ (by omega), trivial, hP _ _ _ (by omega), trivial, hP _ _ _ (by omega), trivial, hP _ _ _ (by omega), trivial, hP _ _ _ (by omega), trivial,
    hP _ _ _ (by omega), trivial, hP _ _ _ (by omega), trivial, hP _ _ _ (by omega), trivial, _, _, _, _, _, c_WasteOfWS (h.sz hk) _, by omega, by omega, hP _ _ _ (by omega), trivial, _, _, _, _, _, _, _, _, _, _, _, _, rfl, c_l14Let h.p hk (h.ch hk), _, hU, ?_⟩
  simp only [n_nodes, d0, d1, d2, d3, d4, d5, d6, d7, d8, d9, d10, d11, d12, isI_iV, asI_iV, isL_sl, es_sl]
  refine ⟨by omega, by omega, hP _ _ _ (by omega), trivial, hP _ _ _ (by omega), trivial, hP _ _ _ (by omega), trivial, hP _ _ _ (by omega), trivial, hP _ _ _ (by omega), trivial, hP _ _ _ (by omega), trivial, hP _ _ _ (by omega), trivial, hP _ _ _ (by omega), trivial, hP _ _ _ (by omega), trivial, hP _ _ _ (by omega), trivial,
    hP _ _ _ (by omega), trivial, hP _ _ _ (by omega), trivial, hP _ _ _ (by omega), trivial, _, _, _, _, _, _, _, _, _, _, _, _, _, c_GoneWS l[k], ?_⟩
  simp only [n_wastes, n_one5, List.length_cons, List.length_nil, hL']
  refine ⟨by omega, by omega, trivial, by omega, by omega, by omega, ?_⟩
  have e := set_node hkl (goneN l[k])
  rw [wsts_snoc w.q (wasteN w.l[k] _), e, outW, getD_node hkl]
  exact ⟨by trivial, by trivial⟩
set_option maxHeartbeats 4000000 in
theorem c_Leave {w : World'} (h : WOk w) (k : Int) {l : List Node} (hl : unlinkD w.l k = nods l) (hll : l.length = w.l.length) : CallD Try.prog F_impl_Leave [rWorld w, iS k] fun r _ => r = oWorld (leaveW w k l) := by
  have hL := nodes_length w.l
  have hL' := nodes_length l
  have hq := h.q
  unfold totQ at hq
  have hq0 := szq_nonneg w.q
  have hn := h.l
  have hn0 := szs_nonneg w.l
  unfold totN at hn
  have hU := c_Unlink h.l k
  rw [hl] at hU
  refine k_impl_Leave ?_
  unfold vc_impl_Leave
  refine ⟨_, _, _, _, _, _, _, _, _, _, _, _, c_copyWorld h.p h.l h.q h.log, _, c_isSlot (by unfold M63; omega) k, fun g => ?_, fun g => ?_⟩
  · obtain ⟨k, rfl⟩ := Int.eq_ofNat_of_zero_le (slotB_iff.1 g).1
    have hk : k < w.l.length := by have := (slotB_iff.1 g).2; omega
    have hkl : k < l.length := by omega
    obtain ⟨d0, d1, d2, d3, d4, d5, d6, d7, d8, d9, d10, d11, d12⟩ := ncells hkl
    have hP : ∀ (p : Pool) (l : List Node) (q : List Waste) (x : Nat), x < (nods l).length → placeOk (bWorld ⟨w.c, p, l, q, w.log⟩) [9, x] := fun p l q x hx => plc9 (w := ⟨w.c, p, l, q, w.log⟩) hx
    simp only [Int.toNat_natCast, drop_nodes hk, List.drop_zero, hdD_cons, List.tail_cons, isI_iV, asI_iV, isL_sl, es_sl, nI, n_nodes]
    refine ⟨by omega, by omega, by simp, trivial, fun e => ?_, fun e => ⟨by omega, by omega, by simp, trivial, trivial, trivial, trivial, trivial, trivial, trivial, trivial, trivial, trivial, trivial, trivial, trivial, _, _, _, _, _, c_WasteOfW (h.sz hk) _, ?_⟩⟩
    · have : leaveW w k l = w := by
        have e : ¬ w.l[k].st = 1 := by simpa using e
        rw [leaveW, liveW, g, Int.toNat_natCast, getD_node hk, if_neg (by simpa using e)]
      rw [this]
    have hW : leaveW w k l = outW w k w.l[k] l := by
      have e : w.l[k].st = 1 := by simpa using e
      rw [leaveW, liveW, g, Int.toNat_natCast, getD_node hk, if_pos (by simpa using e)]
    rw [hW, wsts_snoc w.q (wasteN w.l[k] _)]
    simp only [n_wastes, n_one5]
    refine ⟨by omega, by omega, _, _, _, _, _, _, _, _, _, _, _, _, rfl, c_letGo (w := ⟨w.c, w.p, w.l, w.q ++ [wasteN w.l[k] _], w.log⟩) h.p hk (h.ch hk), _, hU, ?_⟩
    simp only [Nat.add_assoc, Nat.reduceAdd, n_nodes, getP_one, d0, d1, d2, d3, d4, d5, d6, d7, d8, d9, d10, d11, d12, isI_iV, asI_iV, isL_sl, es_sl]
    refine ⟨by omega, by omega, hP _ _ _ _ (by omega), trivial, hP _ _ _ _ (by omega), trivial, hP _ _ _ _ (by omega), trivial, hP _ _ _ _ (by omega), trivial, hP _ _ _ _ (by omega), trivial, hP _ _ _ _ (by omega), trivial, hP _ _ _ _ (by omega), trivial, hP _ _ _ _ (by omega), trivial, hP _ _ _ _ (by omega), trivial, hP _ _ _ _ (by omega), trivial,
      hP _ _ _ _ (by omega), trivial, hP _ _ _ _ (by omega), trivial, hP _ _ _ _ (by omega), trivial, _, _, _, _, _, _, _, _, _, _, _, _, _, c_GoneW l[k], ?_⟩
    simp only [List.length_cons, List.length_nil, hL']
    refine ⟨by omega, by omega, trivial, by omega, ?_⟩
    have e := set_node hkl (goneN l[k])
    rw [e, outW, getD_node hkl]
  · have : leaveW w k l = w := by rw [leaveW, liveW, g]; rfl
    rw [this]
theorem c_LeaveS {w : World'} (h : WOk w) (hok : ∀ n ∈ w.l, n.ok) (k : Int) {l : List Node} (hl : unlinkD w.l k = nods l) (hll : l.length = w.l.length) : CallD Try.prog F_spec_Leave [rWorld w, iS k] fun r _ => r = oWorld (leaveW w k l) := by
  refine k_spec_Leave ?_
  unfold vc_spec_Leave
  refine ⟨_, _, _, _, _, _, _, _, _, _, _, _, c_l13Copy h.p h.l h.q h.log, _, c_l14Live h k, fun g => ?_, fun g => ?_⟩
  · have hs := g
    rw [liveW, Bool.and_eq_true] at hs
    obtain ⟨k, rfl⟩ := Int.eq_ofNat_of_zero_le (slotB_iff.1 hs.1).1
    have hk : k < w.l.length := by have := (slotB_iff.1 hs.1).2; omega
    have hW : leaveW w k l = outW w k w.l[k] l := by
      rw [leaveW, g, Int.toNat_natCast, getD_node hk]; rfl
    rw [hW]
    exact ⟨_, _, _, _, _, _, _, _, _, _, _, _, rfl, c_l14Leave h hok hk hl hll, rfl⟩
  · have : leaveW w k l = w := by rw [leaveW, g]; rfl
    rw [this]
theorem leaveW_ok {w : World'} (h : decide (lf (totW w) 1048576 < 0) = false) (k : Int) {l : List Node} (hl : totN l = totN w.l) (hll : l.length = w.l.length) : WOk w ∧ WOk (leaveW w k l) := by
  obtain ⟨h1, h2, h3, h4, -⟩ := World'.tot_le h
  have hw : WOk w := ⟨h1, h2, h3, h4⟩
  refine ⟨hw, ?_⟩
  unfold leaveW
  split
  · rename_i g
    rw [liveW, Bool.and_eq_true] at g
    obtain ⟨a, b⟩ := slotB_iff.1 g.1
    have hk : k.toNat < w.l.length := by omega
    have hs := szs_at hk
    obtain ⟨ht, -⟩ := lf_pos h
    have hp0 : 0 ≤ totP w.p := by unfold totP; omega
    have es : ∀ s, (wasteN w.l[k.toNat] s).sz ≤ w.l[k.toNat].sz := fun s => by unfold Waste.sz Node.sz wasteN; simp only; omega
    rw [getD_node hk]
    refine ⟨?_, ?_, ?_, h4⟩
    · show totP (letAll w.p _) ≤ _
      rw [letAll_tot]; exact h1
    · exact Int.le_trans (totN_set (by omega) rfl) (by rw [hl]; exact h2)
    · show totQ (w.q ++ [wasteN w.l[k.toNat] _]) ≤ _
      rw [totQ_snoc]
      have es := es (IntKind.i64.wrap ((k.toNat : Int) + 1))
      unfold totW at ht
      have e2 : totN w.l = w.l.length + szs w.l := rfl
      omega
  · exact hw
end Go.Proofs.Ytmnfcahbmlfccaa
