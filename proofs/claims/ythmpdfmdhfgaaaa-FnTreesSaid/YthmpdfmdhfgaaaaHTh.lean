/- Trees of rooms: a new room is linked. -/
import Derived.Test.YthmpdfmdhfgaaaaHTg
namespace Go.Proofs.Ythmpdfmdhfgaaaa
open Go Go.Proofs.Ythmpdfmdhfgaaaa.DL
set_option maxRecDepth 100000

abbrev exB (b : List Node) : List Node := b ++ [newN 0]
abbrev lk (b : List Node) (u : Nat) : List Node := linkL (exB b) (u : Int) (b.length : Int)
/-- A table in order whose last room is new; a room u that lives, not too deep. -/
structure TH (b : List Node) (u : Nat) : Prop where
  len : 1 ≤ b.length ∧ b.length ≤ 6
  all : ∀ n ∈ b, N1 b.length n
  up : u < b.length
  tree : treeB (exB b) = true
  alive : aliveB (exB b) u = true
  deep : ((rise (exB b) (exB b).length u).length : Int) < 4
theorem exB_len (b : List Node) : (exB b).length = b.length + 1 := by simp
theorem nodeAt_nat (l : List Node) (j : Nat) : nodeAt l (j : Int) = l.getD j zeroN := rfl
theorem nodeAt_neg {l : List Node} {j : Int} (h : j ≤ 0) : nodeAt l j = nodeAt l 0 := by
  unfold nodeAt
  rw [Int.toNat_of_nonpos h]; rfl
theorem t_last (b : List Node) : nodeAt (exB b) (b.length : Int) = newN 0 := by
  rw [nodeAt_nat, List.getD_eq_getElem?_getD]; simp
theorem TH.node {b : List Node} {u : Nat} (h : TH b u) {j : Int} (hj : slotB (exB b) j = true) : N1 b.length (nodeAt (exB b) j) := by
  obtain ⟨hi, e⟩ := nodeAt_eq hj
  rw [e]
  rcases List.mem_append.1 (List.getElem_mem hi) with hm | hm
  · exact h.all _ hm
  · rw [List.mem_singleton.1 hm]
    exact (newN_N0 h.len.1 (by omega)).to h.len.2
theorem slot_ext {b : List Node} {j : Int} : slotB (exB b) j = true ↔ 0 ≤ j ∧ j < (b.length : Int) + 1 := by
  rw [slotB_iff, exB_len]; omega
theorem slot_lk {b : List Node} {u : Nat} {j : Int} : slotB (lk b u) j = slotB (exB b) j := by
  unfold slotB
  rw [link_len]
theorem TH.link {b : List Node} {u : Nat} (h : TH b u) {j : Int} (hj : slotB (exB b) j = true) (hs : (nodeAt (exB b) j).st = 1) : LinkP (exB b) j := by
  have hn := (h.node hj).sm
  obtain ⟨p1, p2⟩ := slot_ext.1 hj
  obtain ⟨k, rfl⟩ := Int.eq_ofNat_of_zero_le p1
  have hL := h.len
  exact (link_iff (by omega) hn).1 ((tree_iff.1 h.tree k (by rw [exB_len]; omega) hs).1)
theorem TH.far {b : List Node} {u : Nat} (h : TH b u) {j : Int} (hj : slotB (exB b) j = true) : (nodeAt (exB b) j).up ≠ (b.length : Int) + 1 := fun e => by
  obtain ⟨e1, e2, e3⟩ := (h.node hj).far e
  have hc := (h.link hj e1).c e3
  have e4 : (nodeAt (exB b) j).up - 1 = (b.length : Int) := by omega
  rw [e4, t_last] at hc
  have := hc (slot_ext.2 (by omega)) rfl (by rw [e2]; rfl)
  have := (slot_ext.1 hj).1
  have e5 : (newN 0).first = 0 := rfl
  omega
theorem TH.slot {b : List Node} {u : Nat} (h : TH b u) : slotB (exB b) (u : Int) = true := slot_ext.2 (by have := h.up; omega)
theorem TH.live {b : List Node} {u : Nat} (h : TH b u) : (nodeAt (exB b) (u : Int)).st = 1 := by
  have ha := h.alive
  unfold aliveB wayB at ha
  simp only [Bool.and_eq_true, decide_eq_true_eq, List.all_eq_true, List.mem_range] at ha
  have h0 := ha.1 0 ha.2.1
  unfold stepB at h0
  rw [exB_len, rise_step h.slot] at h0
  simp only [Bool.and_eq_true, decide_eq_true_eq, List.getD_cons_zero] at h0
  exact h0.1
theorem rise_self {l : List Node} {k : Int} (hk : IntKind.i64.wrap ((nodeAt l k).up - 1) = k) : ∀ (f : Nat), ∀ y ∈ rise l f k, y = k
  | 0, y, hy => by simp [rise] at hy
  | f + 1, y, hy => by
    cases h : slotB l k with
    | false => rw [rise_out h] at hy; cases hy
    | true =>
      rw [rise_step h, hk] at hy
      rcases List.mem_cons.1 hy with rfl | hy
      · rfl
      · exact rise_self hk f y hy
/-- Where u's way up ends. -/
theorem TH.ends {b : List Node} {u : Nat} (h : TH b u) : ∃ n : Nat, (rise (exB b) (b.length + 1) u).length = n + 1 ∧ (nodeAt (exB b) ((rise (exB b) (b.length + 1) u).getD n 0)).up = 0 ∧ (rise (exB b) (b.length + 1) u).getD n 0 ∈ rise (exB b) (b.length + 1) u := by
  have ha := h.alive
  unfold aliveB wayB at ha
  simp only [Bool.and_eq_true, decide_eq_true_eq, exB_len] at ha
  obtain ⟨-, h1, h2⟩ := ha
  refine ⟨(rise (exB b) (b.length + 1) u).length - 1, by omega, h2, ?_⟩
  rw [getD_eq (by omega)]
  exact List.getElem_mem _
theorem TH.self {b : List Node} {u : Nat} (h : TH b u) : (nodeAt (exB b) (u : Int)).up ≠ (u : Int) + 1 := fun e => by
  obtain ⟨n, h1, h2, h3⟩ := h.ends
  have hL := h.len
  have hU := h.up
  have h4 := rise_self (l := exB b) (k := (u : Int)) (by rw [e, wrap_id] <;> omega) _ _ h3
  rw [h4, e] at h2
  omega
theorem TH.par {b : List Node} {u : Nat} (h : TH b u) {k : Int} (hk : slotB (exB b) k = true) : IntKind.i64.wrap ((nodeAt (exB b) k).up - 1) = (nodeAt (exB b) k).up - 1 := by
  have := (h.node hk).up
  exact wrap_id (by omega) (by omega)
theorem TH.ne {b : List Node} {u : Nat} (h : TH b u) : ∀ (f : Nat) (k : Int), k ≠ b.length → ∀ y ∈ rise (exB b) f k, y ≠ b.length
  | 0, _, _, y, hy => by simp [rise] at hy
  | f + 1, k, hk, y, hy => by
    cases hs : slotB (exB b) k with
    | false => rw [rise_out hs] at hy; cases hy
    | true =>
      rw [rise_step hs, h.par hs] at hy
      rcases List.mem_cons.1 hy with rfl | hy
      · exact hk
      · exact h.ne f _ (by have := h.far hs; omega) y hy
/-- The child that u had first. -/
theorem TH.fst {b : List Node} {u : Nat} (h : TH b u) (hF : (nodeAt (exB b) (u : Int)).first ≠ 0) :
    slotB (exB b) ((nodeAt (exB b) (u : Int)).first - 1) = true ∧ (nodeAt (exB b) ((nodeAt (exB b) (u : Int)).first - 1)).st = 1 ∧ (nodeAt (exB b) ((nodeAt (exB b) (u : Int)).first - 1)).prev = 0 ∧ (nodeAt (exB b) ((nodeAt (exB b) (u : Int)).first - 1)).up = u + 1 ∧
    (nodeAt (exB b) ((nodeAt (exB b) (u : Int)).first - 1)).upEp = (nodeAt (exB b) (u : Int)).ep ∧ (nodeAt (exB b) (u : Int)).first - 1 ≠ b.length ∧ (nodeAt (exB b) (u : Int)).first - 1 ≠ u := by
  obtain ⟨f1, f2, f3, f4, f5⟩ := (h.link h.slot h.live).f hF
  refine ⟨f1, f2, f3, f4, f5, fun e => ?_, fun e => ?_⟩
  · rw [e, t_last] at f4
    have : (newN 0).up = 0 := rfl
    omega
  · rw [e] at f4
    exact h.self f4
/-- The rooms of the table when the new one is linked. -/
theorem TH.atJ {b : List Node} {u : Nat} (h : TH b u) (j : Nat) : (lk b u).getD j zeroN =
    if j = b.length then ⟨1, 1, 0, (u : Int) + 1, (nodeAt (exB b) (u : Int)).ep, 0, (nodeAt (exB b) (u : Int)).first, 0, [], 0, 0, [], []⟩
    else if j = u then { (exB b).getD j zeroN with first := (b.length : Int) + 1 }
    else if (nodeAt (exB b) (u : Int)).first ≠ 0 ∧ (j : Int) = (nodeAt (exB b) (u : Int)).first - 1 then { (exB b).getD j zeroN with prev := (b.length : Int) + 1 }
    else (exB b).getD j zeroN := by
  have hL := h.len
  have hU := h.up
  have hf := (h.node h.slot).first
  have hlast : (exB b).getD b.length zeroN = newN 0 := t_last b
  have hne : u ≠ b.length := by omega
  have hne' : b.length ≠ u := by omega
  have s2 : slotB (exB b) (b.length : Int) = true := slot_ext.2 (by omega)
  have l1 : b.length < (exB b).length := by rw [exB_len]; omega
  have l2 : u < (exB b).length := by rw [exB_len]; omega
  have w1 : IntKind.i64.wrap ((u : Int) + 1) = u + 1 := wrap_id (by omega) (by omega)
  have w2 : IntKind.i64.wrap ((b.length : Int) + 1) = b.length + 1 := wrap_id (by omega) (by omega)
  have five : (link5 (exB b) u b.length).getD j zeroN = if j = b.length then ⟨1, 1, 0, (u : Int) + 1, (nodeAt (exB b) (u : Int)).ep, 0, (nodeAt (exB b) (u : Int)).first, 0, [], 0, 0, [], []⟩
      else if j = u then { (exB b).getD j zeroN with first := (b.length : Int) + 1 } else (exB b).getD j zeroN := by
    unfold link5
    rw [w1, w2]
    simp only [upd_at, upd_length, Int.toNat_natCast, l1, l2, and_true]
    by_cases e1 : j = b.length
    · subst e1
      simp only [if_true, if_neg hne', hlast]
      rfl
    · by_cases e2 : j = u
      · subst e2
        simp only [if_true, if_neg hne]
      · simp only [if_neg e1, if_neg e2]
  unfold lk linkL
  rw [if_pos (by rw [h.slot, s2]; simp; omega)]
  change (if slotB (exB b) (IntKind.i64.wrap ((nodeAt (exB b) (u : Int)).first - 1)) = true then upd (link5 (exB b) u b.length) (IntKind.i64.wrap ((nodeAt (exB b) (u : Int)).first - 1)).toNat fun n => { n with prev := IntKind.i64.wrap ((b.length : Int) + 1) } else link5 (exB b) u b.length).getD j zeroN = _
  rw [wrap_id (n := (nodeAt (exB b) (u : Int)).first - 1) (by omega) (by omega), w2]
  by_cases hF : (nodeAt (exB b) (u : Int)).first = 0
  · have s0 : slotB (exB b) ((nodeAt (exB b) (u : Int)).first - 1) = false := by
      cases g : slotB (exB b) ((nodeAt (exB b) (u : Int)).first - 1) with
      | false => rfl
      | true => have := (slot_ext.1 g).1; omega
    rw [s0, if_neg (by simp), five, if_neg (show ¬ ((nodeAt (exB b) (u : Int)).first ≠ 0 ∧ (j : Int) = (nodeAt (exB b) (u : Int)).first - 1) from fun g => g.1 hF)]
  · obtain ⟨f1, -, -, -, -, f6, f7⟩ := h.fst hF
    obtain ⟨p1, p2⟩ := slot_ext.1 f1
    rw [if_pos f1, upd_at, link5_length, five]
    by_cases e : (j : Int) = (nodeAt (exB b) (u : Int)).first - 1
    · have e1 : ¬ j = b.length := by omega
      have e2 : ¬ j = u := by omega
      have e3 : j = ((nodeAt (exB b) (u : Int)).first - 1).toNat ∧ ((nodeAt (exB b) (u : Int)).first - 1).toNat < (exB b).length := ⟨by omega, by rw [exB_len]; omega⟩
      rw [if_pos e3]
      simp only [e1, e2, if_false]
      rw [if_pos ⟨hF, e⟩]
    · have e3 : ¬ (j = ((nodeAt (exB b) (u : Int)).first - 1).toNat ∧ ((nodeAt (exB b) (u : Int)).first - 1).toNat < (exB b).length) := fun g => by omega
      rw [if_neg e3, if_neg (show ¬ ((nodeAt (exB b) (u : Int)).first ≠ 0 ∧ (j : Int) = (nodeAt (exB b) (u : Int)).first - 1) from fun g => e g.2)]
theorem TH.atI {b : List Node} {u : Nat} (h : TH b u) {j : Int} (hj : 0 ≤ j) : nodeAt (lk b u) j =
    if j = b.length then ⟨1, 1, 0, (u : Int) + 1, (nodeAt (exB b) (u : Int)).ep, 0, (nodeAt (exB b) (u : Int)).first, 0, [], 0, 0, [], []⟩
    else if j = u then { nodeAt (exB b) j with first := (b.length : Int) + 1 }
    else if (nodeAt (exB b) (u : Int)).first ≠ 0 ∧ j = (nodeAt (exB b) (u : Int)).first - 1 then { nodeAt (exB b) j with prev := (b.length : Int) + 1 }
    else nodeAt (exB b) j := by
  obtain ⟨k, rfl⟩ := Int.eq_ofNat_of_zero_le hj
  have := h.atJ k
  rw [nodeAt_nat, this]
  by_cases e1 : k = b.length
  · have e1' : (k : Int) = (b.length : Int) := by omega
    rw [if_pos e1, if_pos e1']
  · have e1' : ¬ (k : Int) = (b.length : Int) := by omega
    by_cases e2 : k = u
    · have e2' : (k : Int) = (u : Int) := by omega
      rw [if_neg e1, if_pos e2, if_neg e1', if_pos e2']
      rfl
    · have e2' : ¬ (k : Int) = (u : Int) := by omega
      rw [if_neg e1, if_neg e2, if_neg e1', if_neg e2']
      rfl
theorem TH.atN {b : List Node} {u : Nat} (h : TH b u) : nodeAt (lk b u) (b.length : Int) = ⟨1, 1, 0, (u : Int) + 1, (nodeAt (exB b) (u : Int)).ep, 0, (nodeAt (exB b) (u : Int)).first, 0, [], 0, 0, [], []⟩ := by
  rw [h.atI (by omega), if_pos rfl]
theorem TH.atU {b : List Node} {u : Nat} (h : TH b u) : nodeAt (lk b u) (u : Int) = { nodeAt (exB b) (u : Int) with first := (b.length : Int) + 1 } := by
  have := h.up
  rw [h.atI (by omega), if_neg (by omega), if_pos rfl]
/-- What a room has in both tables. -/
theorem TH.same {b : List Node} {u : Nat} (h : TH b u) {j : Int} (hj : 0 ≤ j) (hn : j ≠ b.length) :
    (nodeAt (lk b u) j).st = (nodeAt (exB b) j).st ∧ (nodeAt (lk b u) j).ep = (nodeAt (exB b) j).ep ∧ (nodeAt (lk b u) j).up = (nodeAt (exB b) j).up ∧ (nodeAt (lk b u) j).upEp = (nodeAt (exB b) j).upEp ∧ (nodeAt (lk b u) j).next = (nodeAt (exB b) j).next := by
  rw [h.atI hj, if_neg hn]
  split
  · exact ⟨rfl, rfl, rfl, rfl, rfl⟩
  · split <;> exact ⟨rfl, rfl, rfl, rfl, rfl⟩
theorem TH.same_first {b : List Node} {u : Nat} (h : TH b u) {j : Int} (hj : 0 ≤ j) (hn : j ≠ b.length) (hu : j ≠ u) : (nodeAt (lk b u) j).first = (nodeAt (exB b) j).first := by
  rw [h.atI hj, if_neg hn, if_neg hu]
  split <;> rfl
theorem TH.same_prev {b : List Node} {u : Nat} (h : TH b u) {j : Int} (hj : 0 ≤ j) (hn : j ≠ b.length) (hf : (nodeAt (exB b) (u : Int)).first ≠ 0 → j ≠ (nodeAt (exB b) (u : Int)).first - 1) : (nodeAt (lk b u) j).prev = (nodeAt (exB b) j).prev := by
  rw [h.atI hj, if_neg hn]
  split
  · rfl
  · rw [if_neg fun g => hf g.1 g.2]
theorem TH.sm {b : List Node} {u : Nat} (h : TH b u) {j : Int} (hj : slotB (exB b) j = true) : Sm (nodeAt (lk b u) j) := by
  obtain ⟨p1, p2⟩ := slot_ext.1 hj
  have hL := h.len
  have hU := h.up
  obtain ⟨a1, a2, a3, a4⟩ := (h.node hj).sm
  obtain ⟨b1, b2, b3, b4⟩ := (h.node h.slot).sm
  rw [h.atI p1]
  split
  · constructor <;> simp only <;> omega
  · split
    · constructor <;> simp only <;> omega
    · split
      · constructor <;> simp only <;> omega
      · exact ⟨a1, a2, a3, a4⟩
end Go.Proofs.Ythmpdfmdhfgaaaa
