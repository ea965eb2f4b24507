/- Contracts of small functions: regions left. -/
import Derived.Test.YtmnfcahbmlfccaaHWl
import Derived.Test.YtmnfcahbmlfccaaVHLv
namespace Go.Proofs.Ytmnfcahbmlfccaa
open Go Go.Proofs.Ytmnfcahbmlfccaa.DL
set_option maxRecDepth 100000

def wasteN (n : Node) (slot : Int) : Waste := ⟨slot, n.first, n.tags, n.chunks, 0⟩
theorem c_WasteOfW {n : Node} (hs : n.sz ≤ 1048576) (slot : Int) : CallD Try.prog F_impl_WasteOf [rNode n, iS slot] fun r _ => r = oWaste (wasteN n slot) := by
  unfold Node.sz at hs
  refine k_impl_WasteOf ?_
  unfold vc_impl_WasteOf
  exact ⟨_, c_cloneI (by omega), _, c_cloneI (by omega), rfl⟩
theorem c_WasteOfWS {n : Node} (hs : n.sz ≤ 1048576) (slot : Int) : CallD Try.prog F_spec_WasteOf [rNode n, iS slot] fun r _ => r = oWaste (wasteN n slot) := by
  unfold Node.sz at hs
  refine k_spec_WasteOf ?_
  unfold vc_spec_WasteOf
  simp only [ints_length, n_one, List.length_nil, List.nil_append]
  exact ⟨AllVal_ints _, by omega, by omega, AllVal_ints _, by omega, by omega, rfl⟩
def emptied (n : Node) : Node := ⟨n.st, n.gen, IntKind.i64.wrap (n.ep + 1), n.up, n.upEp, 0, n.next, n.prev, [], 0, 0, [], []⟩
theorem c_EmptiedW (n : Node) : CallD Try.prog F_impl_Emptied [rNode n] fun r _ => r = oNode (emptied n) := k_impl_Emptied rfl
theorem c_EmptiedWS {n : Node} (hs : n.sz ≤ 1048576) : CallD Try.prog F_spec_Emptied [rNode n] fun r _ => r = oNode (emptied n) := by
  refine k_spec_Emptied ?_
  unfold vc_spec_Emptied
  exact ⟨_, _, _, _, _, _, _, _, _, _, _, _, _, c_l7Copy hs, rfl⟩
theorem set_node {l : List Node} {k : Nat} (h : k < l.length) (n : Node) : (((((((((((((nods l).set (k * 13) (iV n.st)).set (k * 13 + 1) (iV n.gen)).set (k * 13 + 2) (iV n.ep)).set (k * 13 + 3) (iV n.up)).set (k * 13 + 4) (iV n.upEp)).set (k * 13 + 5) (iV n.first)).set (k * 13 + 6) (iV n.next)).set (k * 13 + 7) (iV n.prev)).set
    (k * 13 + 8) (.sl 1 (ints n.chunks))).set (k * 13 + 9) (iV n.cur)).set (k * 13 + 10) (iV n.bump)).set (k * 13 + 11) (.sl 3 (thgs n.things))).set (k * 13 + 12) (.sl 1 (ints n.tags)) = nods (l.set k n) := by
  have e := nodes_set h n
  have sp := nodes_split h
  have hp := nodes_pre h
  rw [e, sp]
  generalize nods (l.take k) = p at *
  generalize nods (l.drop (k + 1)) = q at *
  simp only [set_at hp, set_at0 hp, Node.enc, List.cons_append, List.nil_append, List.set_cons_zero, List.set_cons_succ]
theorem szs_set {l : List Node} {k : Nat} (h : k < l.length) (n : Node) : szs (l.set k n) + l[k].sz = szs l + n.sz := by
  have e : szs l = szs (l.take k ++ l[k] :: l.drop (k + 1)) := by rw [List.getElem_cons_drop, List.take_append_drop]
  rw [List.set_eq_take_append_cons_drop, if_pos h, e, szs_app, szs_app]
  simp only [szs]
  omega
theorem totN_set {l : List Node} {k : Nat} (h : k < l.length) {n : Node} (hn : n.sz = 0) : totN (l.set k n) ≤ totN l := by
  have e := szs_set h n
  have := sz_nonneg l[k]
  unfold totN
  rw [List.length_set]
  omega
theorem totQ_snoc (l : List Waste) (x : Waste) : totQ (l ++ [x]) = totQ l + 1 + x.sz := by
  simp only [totQ, szq_app, szq, List.length_append, List.length_cons, List.length_nil]
  omega
/-- What is asked of a world that is left in part. -/
structure WOk (w : World') : Prop where
  p : totP w.p ≤ 1048576
  l : totN w.l ≤ 1048576
  q : totQ w.q ≤ 1048576
  log : w.log.length ≤ 1048576
theorem WOk.sz {w : World'} (h : WOk w) {k : Nat} (hk : k < w.l.length) : w.l[k].sz ≤ 1048576 := by
  have := szs_at hk
  have h2 := h.l
  unfold totN at h2
  omega
theorem WOk.ch {w : World'} (h : WOk w) {k : Nat} (hk : k < w.l.length) : w.l[k].chunks.length ≤ 1048576 := by
  have := h.sz hk
  unfold Node.sz at this
  omega
def inW (w : World') (k : Nat) (n : Node) : World' := ⟨w.c, letAll w.p n.chunks, w.l.set k (emptied n), w.q ++ [wasteN n 0], w.log⟩
def leaveInW (w : World') (k : Int) : World' := if slotB w.l k && decide ((w.l.getD k.toNat zeroN).st = 1) then inW w k.toNat (w.l.getD k.toNat zeroN) else w
theorem ncells {l : List Node} {k : Nat} (h : k < l.length) : (nods l).getD (k * 13) dfl = iV l[k].st ∧ (nods l).getD (k * 13 + 1) dfl = iV l[k].gen ∧ (nods l).getD (k * 13 + 2) dfl = iV l[k].ep ∧ (nods l).getD (k * 13 + 3) dfl = iV l[k].up ∧ (nods l).getD (k * 13 + 4) dfl = iV l[k].upEp ∧
    (nods l).getD (k * 13 + 5) dfl = iV l[k].first ∧ (nods l).getD (k * 13 + 6) dfl = iV l[k].next ∧ (nods l).getD (k * 13 + 7) dfl = iV l[k].prev ∧ (nods l).getD (k * 13 + 8) dfl = .sl 1 (ints l[k].chunks) ∧ (nods l).getD (k * 13 + 9) dfl = iV l[k].cur ∧ (nods l).getD (k * 13 + 10) dfl = iV l[k].bump ∧
    (nods l).getD (k * 13 + 11) dfl = .sl 3 (thgs l[k].things) ∧ (nods l).getD (k * 13 + 12) dfl = .sl 1 (ints l[k].tags) := by
  have g : ∀ j, j < 13 → (nods l).getD (k * 13 + j) dfl = (l[k].enc).getD j dfl := fun j hj => flat_getD Node.enc_len l k j h hj
  exact ⟨g 0 (by omega), g 1 (by omega), g 2 (by omega), g 3 (by omega), g 4 (by omega), g 5 (by omega), g 6 (by omega), g 7 (by omega), g 8 (by omega), g 9 (by omega), g 10 (by omega), g 11 (by omega), g 12 (by omega)⟩
def liveW (w : World') (k : Int) : Bool := slotB w.l k && decide ((w.l.getD k.toNat zeroN).st = 1)
theorem c_l14Live {w : World'} (h : WOk w) (k : Int) : CallD Try.prog F_spec_l14Live [rWorld w, iS k] fun r _ => r = bS (liveW w k) := by
  have h2 := h.l
  have h0 := szs_nonneg w.l
  unfold totN at h2
  refine k_spec_l14Live ?_
  unfold vc_spec_l14Live
  simp only [nI, n_nodes]
  rw [wrap_id (n := (w.l.length : Int) - 1) (by omega) (by omega)]
  refine ⟨_, c_l1In _ _ _, fun g => ?_, fun g => ?_⟩
  · rw [within_iff] at g
    have hk : k.toNat < w.l.length := by omega
    have hs : slotB w.l k = true := slotB_iff.2 (by omega)
    simp only [drop_nodes hk, List.drop_zero, hdD_cons, isI_iV, asI_iV]
    refine ⟨by omega, by omega, by simp, trivial, fun e => bS_eq ?_, fun e => bS_eq ?_⟩
    · rw [liveW, hs, getD_node hk, e]; rfl
    · rw [liveW, hs, getD_node hk, e]; rfl
  · rw [within_not] at g
    have hs : slotB w.l k = false := by
      cases hb : slotB w.l k with
      | false => rfl
      | true => exact absurd (slotB_iff.1 hb) (by omega)
    exact bS_eq (by rw [liveW, hs]; rfl)
set_option maxHeartbeats 4000000 in
theorem c_l14LeaveIn {w : World'} (h : WOk w) {k : Nat} (hk : k < w.l.length) : CallD Try.prog F_spec_l14LeaveIn [bWorld w, iS k] fun r bs => r = SV.tup [] ∧ bs.getD 0 .dead = bWorld (inW w k w.l[k]) := by
  obtain ⟨c0, c1, c2, c3, c4, c5, c6, c7, c8, c9, c10, c11, c12⟩ := ncells hk
  have hP : ∀ (p : Pool) (x : Nat), x < (nods w.l).length → placeOk (bWorld ⟨w.c, p, w.l, w.q, w.log⟩) [9, x] := fun p x hx => plc9 (w := ⟨w.c, p, w.l, w.q, w.log⟩) hx
  have hL := nodes_length w.l
  have hq := h.q
  unfold totQ at hq
  have hq0 := szq_nonneg w.q
  refine k_spec_l14LeaveIn ?_
  unfold vc_spec_l14LeaveIn
  simp only [nI, n_nodes, Int.toNat_natCast, Nat.add_assoc, Nat.reduceAdd, getP_one, c0, c1, c2, c3, c4, c5, c6, c7, c8, c9, c10, c11, c12, isI_iV, asI_iV, isL_sl, es_sl]
  refine ⟨by omega, by omega, hP _ _ (by omega), trivial, hP _ _ (by omega), trivial, hP _ _ (by omega), trivial, hP _ _ (by omega), trivial, hP _ _ (by omega), trivial, hP _ _ (by omega), trivial, hP _ _ (by omega), trivial, hP _ _ (by omega), trivial, hP _ _ (by omega), trivial, hP _ _ (by omega), trivial,
    hP _ _ (by omega), trivial, hP _ _ (by omega), trivial, hP _ _ (by omega), trivial, _, _, _, _, _, c_WasteOfWS (h.sz hk) 0, by omega, by omega, hP _ _ (by omega), trivial, _, _, _, _, _, _, _, _, _, _, _, _, rfl, c_l14Let h.p hk (h.ch hk), ?_⟩
  simp only [n_nodes, c0, c1, c2, c3, c4, c5, c6, c7, c8, c9, c10, c11, c12, isI_iV, asI_iV, isL_sl, es_sl]
  refine ⟨by omega, by omega, hP _ _ (by omega), trivial, hP _ _ (by omega), trivial, hP _ _ (by omega), trivial, hP _ _ (by omega), trivial, hP _ _ (by omega), trivial, hP _ _ (by omega), trivial, hP _ _ (by omega), trivial, hP _ _ (by omega), trivial, hP _ _ (by omega), trivial, hP _ _ (by omega), trivial,
    hP _ _ (by omega), trivial, hP _ _ (by omega), trivial, hP _ _ (by omega), trivial, _, _, _, _, _, _, _, _, _, _, _, _, _, c_EmptiedWS (h.sz hk), ?_⟩
  simp only [n_wastes, n_one5, List.length_cons, List.length_nil, hL]
  refine ⟨by omega, by omega, trivial, by omega, by omega, by omega, ?_⟩
  have e := set_node hk (emptied w.l[k])
  rw [wsts_snoc w.q (wasteN w.l[k] 0), e]
  exact ⟨by trivial, by trivial⟩
set_option maxHeartbeats 4000000 in
theorem c_LeaveIn {w : World'} (h : WOk w) (k : Int) : CallD Try.prog F_impl_LeaveIn [rWorld w, iS k] fun r _ => r = oWorld (leaveInW w k) := by
  have hL := nodes_length w.l
  have hq := h.q
  unfold totQ at hq
  have hq0 := szq_nonneg w.q
  have hl := h.l
  have hl0 := szs_nonneg w.l
  unfold totN at hl
  refine k_impl_LeaveIn ?_
  unfold vc_impl_LeaveIn
  refine ⟨_, _, _, _, _, _, _, _, _, _, _, _, c_copyWorld h.p h.l h.q h.log, _, c_isSlot (by unfold M63; omega) k, fun g => ?_, fun g => ?_⟩
  · obtain ⟨k, rfl⟩ := Int.eq_ofNat_of_zero_le (slotB_iff.1 g).1
    have hk : k < w.l.length := by have := (slotB_iff.1 g).2; omega
    obtain ⟨c0, c1, c2, c3, c4, c5, c6, c7, c8, c9, c10, c11, c12⟩ := ncells hk
    have hP : ∀ (p : Pool) (q : List Waste) (x : Nat), x < (nods w.l).length → placeOk (bWorld ⟨w.c, p, w.l, q, w.log⟩) [9, x] := fun p q x hx => plc9 (w := ⟨w.c, p, w.l, q, w.log⟩) hx
    simp only [Int.toNat_natCast, drop_nodes hk, List.drop_zero, hdD_cons, List.tail_cons, isI_iV, asI_iV, isL_sl, es_sl, nI, n_nodes]
    refine ⟨by omega, by omega, by simp, trivial, fun e => ?_, fun e => ⟨by omega, by omega, by simp, trivial, trivial, trivial, trivial, trivial, trivial, trivial, trivial, trivial, trivial, trivial, trivial, trivial, _, _, _, _, _, c_WasteOfW (h.sz hk) 0, ?_⟩⟩
    · have : leaveInW w k = w := by
        have e : ¬ w.l[k].st = 1 := by simpa using e
        rw [leaveInW, g, Int.toNat_natCast, getD_node hk, if_neg (by simpa using e)]
      rw [this]
    have hW : leaveInW w k = inW w k w.l[k] := by
      have e : w.l[k].st = 1 := by simpa using e
      rw [leaveInW, g, Int.toNat_natCast, getD_node hk, if_pos (by simpa using e)]
    rw [hW, wsts_snoc w.q (wasteN w.l[k] 0)]
    simp only [n_wastes, n_one5]
    refine ⟨by omega, by omega, _, _, _, _, _, _, _, _, _, _, _, _, rfl, c_letGo (w := ⟨w.c, w.p, w.l, w.q ++ [wasteN w.l[k] 0], w.log⟩) h.p hk (h.ch hk), ?_⟩
    simp only [Nat.add_assoc, Nat.reduceAdd, n_nodes, getP_one, c0, c1, c2, c3, c4, c5, c6, c7, c8, c9, c10, c11, c12, isI_iV, asI_iV, isL_sl, es_sl]
    refine ⟨by omega, by omega, hP _ _ _ (by omega), trivial, hP _ _ _ (by omega), trivial, hP _ _ _ (by omega), trivial, hP _ _ _ (by omega), trivial, hP _ _ _ (by omega), trivial, hP _ _ _ (by omega), trivial, hP _ _ _ (by omega), trivial, hP _ _ _ (by omega), trivial, hP _ _ _ (by omega), trivial, hP _ _ _ (by omega), trivial,
      hP _ _ _ (by omega), trivial, hP _ _ _ (by omega), trivial, hP _ _ _ (by omega), trivial, _, _, _, _, _, _, _, _, _, _, _, _, _, c_EmptiedW w.l[k], ?_⟩
    simp only [List.length_cons, List.length_nil, hL]
    refine ⟨by omega, by omega, trivial, by omega, ?_⟩
    have e := set_node hk (emptied w.l[k])
    rw [e]
    rfl
  · have : leaveInW w k = w := by rw [leaveInW, g]; rfl
    rw [this]
theorem c_LeaveInS {w : World'} (h : WOk w) (k : Int) : CallD Try.prog F_spec_LeaveIn [rWorld w, iS k] fun r _ => r = oWorld (leaveInW w k) := by
  refine k_spec_LeaveIn ?_
  unfold vc_spec_LeaveIn
  refine ⟨_, _, _, _, _, _, _, _, _, _, _, _, c_l13Copy h.p h.l h.q h.log, _, c_l14Live h k, fun g => ?_, fun g => ?_⟩
  · have hs := g
    rw [liveW, Bool.and_eq_true] at hs
    obtain ⟨k, rfl⟩ := Int.eq_ofNat_of_zero_le (slotB_iff.1 hs.1).1
    have hk : k < w.l.length := by have := (slotB_iff.1 hs.1).2; omega
    have hW : leaveInW w k = inW w k w.l[k] := by
      unfold liveW at g
      rw [leaveInW, g, Int.toNat_natCast, getD_node hk]; rfl
    rw [hW]
    exact ⟨_, _, _, _, _, _, _, _, _, _, _, _, rfl, c_l14LeaveIn h hk, rfl⟩
  · have : leaveInW w k = w := by unfold liveW at g; rw [leaveInW, g]; rfl
    rw [this]
theorem leaveInW_ok {w : World'} (h : decide (lf (totW w) 1048576 < 0) = false) (k : Int) : WOk w ∧ WOk (leaveInW w k) := by
  obtain ⟨h1, h2, h3, h4, -⟩ := World'.tot_le h
  have hw : WOk w := ⟨h1, h2, h3, h4⟩
  refine ⟨hw, ?_⟩
  unfold leaveInW
  split
  · rename_i g
    rw [Bool.and_eq_true] at g
    obtain ⟨a, b⟩ := slotB_iff.1 g.1
    have hk : k.toNat < w.l.length := by omega
    have hs := szs_at hk
    obtain ⟨ht, -⟩ := lf_pos h
    have hp0 : 0 ≤ totP w.p := by unfold totP; omega
    have es : (wasteN w.l[k.toNat] 0).sz ≤ w.l[k.toNat].sz := by unfold Waste.sz Node.sz wasteN; simp only; omega
    rw [getD_node hk]
    refine ⟨?_, ?_, ?_, h4⟩
    · show totP (letAll w.p _) ≤ _
      rw [letAll_tot]; exact h1
    · exact Int.le_trans (totN_set hk rfl) h2
    · show totQ (w.q ++ [wasteN w.l[k.toNat] 0]) ≤ _
      rw [totQ_snoc]
      unfold totW totN at ht
      omega
  · exact hw
end Go.Proofs.Ytmnfcahbmlfccaa
