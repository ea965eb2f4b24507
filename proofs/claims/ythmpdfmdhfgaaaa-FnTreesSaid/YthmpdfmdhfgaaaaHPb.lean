/- Contracts of small functions: a room taken out of its place. -/
import Derived.Test.YthmpdfmdhfgaaaaHP
import Derived.Test.YthmpdfmdhfgaaaaVHPb
namespace Go.Proofs.Ythmpdfmdhfgaaaa
open Go Go.Proofs.Ythmpdfmdhfgaaaa.DL
set_option maxRecDepth 100000

theorem nget {l : List Node} {k : Nat} (h : k < l.length) {j : Nat} (hj : j < 13) : (nods l).getD (k * 13 + j) dfl = (l[k].enc).getD j dfl := flat_getD Node.enc_len l k j h hj
theorem getD_set_off {α : Type} {es : List α} {p q : Nat} {x d : α} (h : p ≠ q) : (es.set p x).getD q d = es.getD q d := by
  rw [List.getD_eq_getElem?_getD, List.getElem?_set_ne h, List.getD_eq_getElem?_getD]
theorem n_set13 (es : List DV) (i : Nat) (x : DV) : (DV.sl 13 (es.set i x)).n = (DV.sl 13 es).n := by rw [DV.n_eq, DV.n_eq, List.length_set]
def firstAt (l : List Node) (r : Int) : Int := (l.getD r.toNat zeroN).first
/-- The list that a slot stands in, without it: its neighbour ahead, or its parent. -/
def unA (l : List Node) (k p pv nx r : Int) : List DV :=
  if slotB l p then (nods l).set (p.toNat * 13 + 6) (iV nx)
  else if decide (pv = 0) && (slotB l r && decide (firstAt l r = IntKind.i64.wrap (k + 1))) then (nods l).set (r.toNat * 13 + 5) (iV nx) else nods l
def unB (l : List Node) (k p pv q nx r : Int) : List DV := if slotB l q then (unA l k p pv nx r).set (q.toNat * 13 + 7) (iV pv) else unA l k p pv nx r
def unD (l : List Node) (k p pv q nx r : Int) : List DV := ((((unB l k p pv q nx r).set (k.toNat * 13 + 3) (iV 0)).set (k.toNat * 13 + 4) (iV 0)).set (k.toNat * 13 + 6) (iV 0)).set (k.toNat * 13 + 7) (iV 0)
def unlinkD (l : List Node) (k : Int) : List DV :=
  if slotB l k then unD l k (IntKind.i64.wrap ((l.getD k.toNat zeroN).prev - 1)) (l.getD k.toNat zeroN).prev (IntKind.i64.wrap ((l.getD k.toNat zeroN).next - 1)) (l.getD k.toNat zeroN).next (IntKind.i64.wrap ((l.getD k.toNat zeroN).up - 1)) else nods l
set_option maxHeartbeats 4000000 in
theorem c_Unlink {l : List Node} (h : totN l ≤ 1048576) (k : Int) : CallD Try.prog F_impl_Unlink [rNs l, iS k] fun r _ => r = oneC (.own (.sl 13 (unlinkD l k))) := by
  have h0 := szs_nonneg l
  have hl : l.length ≤ M63 := by unfold M63; unfold totN at h; omega
  refine k_impl_Unlink ?_
  unfold vc_impl_Unlink
  refine ⟨_, c_copyTable h, _, c_isSlot hl k, fun g1 => ?_, fun g1 => ?_⟩
  · obtain ⟨p1, p2⟩ := slotB_iff.1 g1
    have hi : k.toNat < l.length := by omega
    have g7 : (nods l).getD (k.toNat * 13 + 7) dfl = iV l[k.toNat].prev := nget hi (by omega)
    have g6 : (nods l).getD (k.toNat * 13 + 6) dfl = iV l[k.toNat].next := nget hi (by omega)
    have g3 : (nods l).getD (k.toNat * 13 + 3) dfl = iV l[k.toNat].up := nget hi (by omega)
    have hD : unlinkD l k = unD l k (IntKind.i64.wrap (l[k.toNat].prev - 1)) l[k.toNat].prev (IntKind.i64.wrap (l[k.toNat].next - 1)) l[k.toNat].next (IntKind.i64.wrap (l[k.toNat].up - 1)) := by unfold unlinkD; rw [if_pos g1, getD_node hi]
    rw [hD]
    simp only [nI, n_set13, n_nodes, getP_one, placeOk_one, List.length_set, nodes_length, es_sl, g7, g6, g3, asI_iV, isI_iV]
    have cP := c_isSlot hl (IntKind.i64.wrap (l[k.toNat].prev - 1))
    have cN := c_isSlot hl (IntKind.i64.wrap (l[k.toNat].next - 1))
    have cU := c_isSlot hl (IntKind.i64.wrap (l[k.toNat].up - 1))
    generalize IntKind.i64.wrap (l[k.toNat].prev - 1) = p at *
    generalize IntKind.i64.wrap (l[k.toNat].next - 1) = q at *
    generalize IntKind.i64.wrap (l[k.toNat].up - 1) = r at *
    have e7 : ∀ (j : Nat) (x : DV), (((nods l).set (j * 13 + 6) x).getD (k.toNat * 13 + 7) dfl) = iV l[k.toNat].prev := fun j x => by rw [getD_set_off (by omega), g7]
    have e7' : ∀ (j : Nat) (x : DV), (((nods l).set (j * 13 + 5) x).getD (k.toNat * 13 + 7) dfl) = iV l[k.toNat].prev := fun j x => by rw [getD_set_off (by omega), g7]
    simp only [e7, e7', asI_iV, isI_iV]
    have gu : slotB l r = true → (nods l).getD (r.toNat * 13 + 5) dfl = iV (firstAt l r) := fun hr => by
      obtain ⟨q1, q2⟩ := slotB_iff.1 hr
      have hj : r.toNat < l.length := by omega
      rw [nget hj (by omega)]
      unfold firstAt
      rw [getD_node hj]; rfl
    clear hD g7 g6 g3 e7 e7' g1 h0 h
    generalize l[k.toNat].prev = pv at *
    generalize l[k.toNat].next = nx at *
    unfold unD unB unA
    cases hP : slotB l p <;> cases hN : slotB l q <;> cases hU : slotB l r <;> rw [hP] at cP <;> rw [hN] at cN <;> rw [hU] at cU gu <;>
      simp only [if_true, if_false, Bool.false_eq_true, Bool.false_and, Bool.and_false, Bool.true_and]
    all_goals try (replace gu := gu rfl; rw [gu, show (iV (firstAt l r)).asI = firstAt l r from rfl])
    all_goals
      repeat' (first
        | exact cP | exact cN | exact cU
        | trivial
        | rfl
        | omega
        | (have := slotB_iff.1 hP; omega)
        | (have := slotB_iff.1 hN; omega)
        | (have := slotB_iff.1 hU; omega)
        | (refine ⟨?_, trivial⟩; omega)
        | (have := slotB_iff.1 hU; refine ⟨?_, trivial⟩; omega)
        | (intro g; cases g; done)
        | (intro g; simp only [g, Bool.false_and, Bool.true_and, if_false, Bool.false_eq_true]; done)
        | intro _
        | apply And.intro
        | apply Exists.intro)
    all_goals (simp_all; done)
  · unfold unlinkD; rw [g1]; rfl
set_option maxHeartbeats 4000000 in
theorem c_UnlinkS {l : List Node} (h : totN l ≤ 1048576) (hok : ∀ n ∈ l, n.ok) {k : Int} (hk : I64 k) : CallD Try.prog F_spec_Unlink [rNs l, iS k] fun r _ => r = oneC (.own (.sl 13 (unlinkD l k))) := by
  have h0 := szs_nonneg l
  have hl : l.length ≤ M63 := by unfold M63; unfold totN at h; omega
  refine k_spec_Unlink ?_
  unfold vc_spec_Unlink
  have c1 := c_l9Place (l := l) (IntKind.i64.wrap (k + 1))
  rw [slot_wrap hl hk] at c1
  refine ⟨_, c_l7All h, _, c1, fun g1 => ?_, fun g1 => ?_⟩
  · obtain ⟨p1, p2⟩ := slotB_iff.1 g1
    have hi : k.toNat < l.length := by omega
    have hD : unlinkD l k = unD l k (IntKind.i64.wrap (l[k.toNat].prev - 1)) l[k.toNat].prev (IntKind.i64.wrap (l[k.toNat].next - 1)) l[k.toNat].next (IntKind.i64.wrap (l[k.toNat].up - 1)) := by unfold unlinkD; rw [if_pos g1, getD_node hi]
    rw [hD]
    have ho := hok _ (List.getElem_mem hi)
    have cP := c_l9Place (l := l) l[k.toNat].prev
    rw [slot_pred hl ho.2.2.2.2.2.2.2.1] at cP
    have cN := c_l9Place (l := l) l[k.toNat].next
    rw [slot_pred hl ho.2.2.2.2.2.2.1] at cN
    have cU := c_l9Place (l := l) l[k.toNat].up
    rw [slot_pred hl ho.2.2.2.1] at cU
    simp only [drop_nodes hi, List.tail_cons, hdD_cons, isI_iV, asI_iV, isL_sl, nI, n_set13, n_nodes, nodes_length, List.length_set, es_sl]
    clear ho hD g1 h0 h
    generalize l[k.toNat].prev = pv at *
    generalize l[k.toNat].next = nx at *
    generalize l[k.toNat].up = uv at *
    generalize IntKind.i64.wrap (pv - 1) = p at *
    generalize IntKind.i64.wrap (nx - 1) = q at *
    generalize IntKind.i64.wrap (uv - 1) = r at *
    have gu : slotB l r = true → ∃ n : Node, ∃ t, (nods l).drop (r.toNat * 13) = iV n.st :: iV n.gen :: iV n.ep :: iV n.up :: iV n.upEp :: iV (firstAt l r) :: iV n.next :: iV n.prev :: .sl 1 (ints n.chunks) :: iV n.cur :: iV n.bump :: .sl 3 (thgs n.things) :: .sl 1 (ints n.tags) :: t := fun hr => by
      obtain ⟨q1, q2⟩ := slotB_iff.1 hr
      have hj : r.toNat < l.length := by omega
      refine ⟨l[r.toNat], nods (l.drop (r.toNat + 1)), ?_⟩
      rw [drop_nodes hj]
      unfold firstAt
      rw [getD_node hj]
    unfold unD unB unA
    cases hP : slotB l p <;> cases hN : slotB l q <;> cases hU : slotB l r <;> rw [hP] at cP <;> rw [hN] at cN <;> rw [hU] at cU gu <;>
      simp only [if_true, if_false, Bool.false_eq_true, Bool.false_and, Bool.and_false, Bool.true_and]
    all_goals try (replace gu := gu rfl; obtain ⟨n, t, gu⟩ := gu; simp only [gu, List.drop_succ_cons, List.drop_zero, hdD_cons, isI_iV, asI_iV])
    all_goals
      repeat' (first
        | exact cP | exact cN | exact cU
        | trivial
        | rfl
        | omega
        | (have := slotB_iff.1 hP; omega)
        | (have := slotB_iff.1 hN; omega)
        | (have := slotB_iff.1 hU; omega)
        | (refine ⟨?_, trivial⟩; omega)
        | (have := slotB_iff.1 hU; refine ⟨?_, trivial⟩; omega)
        | (intro g; cases g; done)
        | (intro g; simp only [g, Bool.false_and, Bool.true_and, if_false, Bool.false_eq_true]; done)
        | intro _
        | apply And.intro
        | apply Exists.intro)
    all_goals (simp_all; done)
  · unfold unlinkD; rw [g1]; rfl
/-- What is left is a table again. -/
theorem set_nods {l : List Node} {k : Nat} (hk : k < l.length) {j : Nat} {v : Int} (hj : j = 3 ∨ j = 4 ∨ j = 5 ∨ j = 6 ∨ j = 7) : ∃ l', (nods l).set (k * 13 + j) (iV v) = nods l' ∧ totN l' = totN l ∧ l'.length = l.length := by
  rcases hj with rfl | rfl | rfl | rfl | rfl
  · exact ⟨_, set_up hk v, tot_up _ _ _, upd_length _ _ _⟩
  · exact ⟨_, set_upEp hk v, tot_upEp _ _ _, upd_length _ _ _⟩
  · exact ⟨_, set_first hk v, tot_first _ _ _, upd_length _ _ _⟩
  · exact ⟨_, set_next hk v, tot_next _ _ _, upd_length _ _ _⟩
  · exact ⟨_, set_prev hk v, tot_prev _ _ _, upd_length _ _ _⟩
theorem unA_nods {l : List Node} (k p pv nx r : Int) : ∃ l', unA l k p pv nx r = nods l' ∧ totN l' = totN l ∧ l'.length = l.length := by
  unfold unA
  split
  · rename_i g; obtain ⟨_, _⟩ := slotB_iff.1 g; exact set_nods (by omega) (by omega)
  · split
    · rename_i g; rw [Bool.and_eq_true, Bool.and_eq_true] at g; obtain ⟨_, _⟩ := slotB_iff.1 g.2.1; exact set_nods (by omega) (by omega)
    · exact ⟨l, rfl, rfl, rfl⟩
theorem unB_nods {l : List Node} (k p pv q nx r : Int) : ∃ l', unB l k p pv q nx r = nods l' ∧ totN l' = totN l ∧ l'.length = l.length := by
  unfold unB
  obtain ⟨l', e, e1, e2⟩ := unA_nods (l := l) k p pv nx r
  split
  · rename_i g; obtain ⟨_, _⟩ := slotB_iff.1 g
    rw [e]
    obtain ⟨l2, f, f1, f2⟩ := set_nods (l := l') (k := q.toNat) (by omega) (j := 7) (v := pv) (by omega)
    exact ⟨l2, f, by omega, by omega⟩
  · exact ⟨l', e, e1, e2⟩
theorem unlink_nods (l : List Node) (k : Int) : ∃ l', unlinkD l k = nods l' ∧ totN l' = totN l := by
  unfold unlinkD
  split
  · rename_i g; obtain ⟨_, _⟩ := slotB_iff.1 g
    unfold unD
    obtain ⟨l1, e, e1, e2⟩ := unB_nods (l := l) k (IntKind.i64.wrap ((l.getD k.toNat zeroN).prev - 1)) (l.getD k.toNat zeroN).prev (IntKind.i64.wrap ((l.getD k.toNat zeroN).next - 1)) (l.getD k.toNat zeroN).next (IntKind.i64.wrap ((l.getD k.toNat zeroN).up - 1))
    rw [e]
    obtain ⟨l2, f, f1, f2⟩ := set_nods (l := l1) (k := k.toNat) (by omega) (j := 3) (v := 0) (by omega)
    rw [f]
    obtain ⟨l3, g3, g1, g2⟩ := set_nods (l := l2) (k := k.toNat) (by omega) (j := 4) (v := 0) (by omega)
    rw [g3]
    obtain ⟨l4, i, i1, i2⟩ := set_nods (l := l3) (k := k.toNat) (by omega) (j := 6) (v := 0) (by omega)
    rw [i]
    obtain ⟨l5, j, j1, j2⟩ := set_nods (l := l4) (k := k.toNat) (by omega) (j := 7) (v := 0) (by omega)
    exact ⟨l5, j, by omega⟩
  · exact ⟨l, rfl, rfl⟩
end Go.Proofs.Ythmpdfmdhfgaaaa
