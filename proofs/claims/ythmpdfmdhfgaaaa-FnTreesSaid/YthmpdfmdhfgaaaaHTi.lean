/- Trees of rooms: the law of linking. -/
import Derived.Test.YthmpdfmdhfgaaaaHTh
namespace Go.Proofs.Ythmpdfmdhfgaaaa
open Go Go.Proofs.Ythmpdfmdhfgaaaa.DL
set_option maxRecDepth 100000

theorem TH.linkP {b : List Node} {u : Nat} (h : TH b u) {m : Int} (hm : slotB (exB b) m = true) (hs : (nodeAt (lk b u) m).st = 1) : LinkP (lk b u) m := by
  have hL := h.len
  have hU := h.up
  obtain ⟨m1, m2⟩ := slot_ext.1 hm
  have z1 : (newN 0).prev = 0 := rfl
  have z2 : (newN 0).next = 0 := rfl
  have z3 : (newN 0).up = 0 := rfl
  have hl := t_last b
  by_cases eN : m = b.length
  · subst eN
    have e := h.atN
    constructor <;> rw [e] <;> simp only [slot_lk]
    · exact fun g => absurd rfl g
    · intro g
      obtain ⟨f1, f2, f3, f4, f5, f6, f7⟩ := h.fst g
      obtain ⟨p1, p2⟩ := slot_ext.1 f1
      refine ⟨f1, ?_⟩
      rw [h.atI p1, if_neg f6, if_neg f7, if_pos ⟨g, rfl⟩]
      exact ⟨f2, rfl, f4, f5⟩
    · exact fun g => absurd rfl g
    · intro _
      rw [show (u : Int) + 1 - 1 = u by omega]
      exact h.slot
    · intro _ _ _ _
      rw [show (u : Int) + 1 - 1 = u by omega, h.atU]
  obtain ⟨c1, c2, c3, c4, c5⟩ := h.same m1 eN
  rw [c1] at hs
  have hp := h.link hm hs
  have hn : (nodeAt (exB b) m).next ≠ 0 → slotB (lk b u) ((nodeAt (exB b) m).next - 1) = true ∧ (nodeAt (lk b u) ((nodeAt (exB b) m).next - 1)).st = 1 ∧ (nodeAt (lk b u) ((nodeAt (exB b) m).next - 1)).prev = m + 1 ∧
      (nodeAt (lk b u) ((nodeAt (exB b) m).next - 1)).up = (nodeAt (exB b) m).up ∧ (nodeAt (lk b u) ((nodeAt (exB b) m).next - 1)).upEp = (nodeAt (exB b) m).upEp := fun g => by
    obtain ⟨a1, a2, a3, a4, a5⟩ := hp.n g
    have q0 := (slot_ext.1 a1).1
    have q1 : (nodeAt (exB b) m).next - 1 ≠ b.length := fun e => by rw [e, hl, z1] at a3; omega
    obtain ⟨d1, d2, d3, d4, d5⟩ := h.same q0 q1
    refine ⟨by rw [slot_lk]; exact a1, by rw [d1]; exact a2, ?_, by rw [d3]; exact a4, by rw [d4]; exact a5⟩
    rw [h.same_prev q0 q1 fun gF e => ?_]
    · exact a3
    · rw [e] at a3
      have := (h.fst gF).2.2.1
      omega
  have hup : (nodeAt (exB b) m).up ≠ 0 → slotB (lk b u) ((nodeAt (exB b) m).up - 1) = true := fun g => by rw [slot_lk]; exact hp.u g
  have hpv : (nodeAt (exB b) m).prev ≠ 0 → slotB (lk b u) ((nodeAt (exB b) m).prev - 1) = true ∧ (nodeAt (lk b u) ((nodeAt (exB b) m).prev - 1)).st = 1 ∧ (nodeAt (lk b u) ((nodeAt (exB b) m).prev - 1)).next = m + 1 := fun g => by
    obtain ⟨a1, a2, a3⟩ := hp.p g
    have q0 := (slot_ext.1 a1).1
    have q1 : (nodeAt (exB b) m).prev - 1 ≠ b.length := fun e => by rw [e, hl, z2] at a3; omega
    obtain ⟨d1, d2, d3, d4, d5⟩ := h.same q0 q1
    exact ⟨by rw [slot_lk]; exact a1, by rw [d1]; exact a2, by rw [d5]; exact a3⟩
  have hc : (nodeAt (exB b) m).prev = 0 → ((nodeAt (exB b) (u : Int)).first ≠ 0 → m ≠ (nodeAt (exB b) (u : Int)).first - 1) → slotB (lk b u) ((nodeAt (exB b) m).up - 1) = true → (nodeAt (lk b u) ((nodeAt (exB b) m).up - 1)).st = 1 → (nodeAt (lk b u) ((nodeAt (exB b) m).up - 1)).ep = (nodeAt (exB b) m).upEp →
      (nodeAt (lk b u) ((nodeAt (exB b) m).up - 1)).first = m + 1 := fun g g0 g1 g2 g3 => by
    rw [slot_lk] at g1
    have q0 := (slot_ext.1 g1).1
    have q1 : (nodeAt (exB b) m).up - 1 ≠ b.length := by have := h.far hm; omega
    obtain ⟨d1, d2, d3, d4, d5⟩ := h.same q0 q1
    rw [d1] at g2
    rw [d2] at g3
    have a := hp.c g g1 g2 g3
    rw [h.same_first q0 q1 fun e => ?_]
    · exact a
    · rw [e] at a
      exact g0 (by omega) (by omega)
  by_cases eU : m = u
  · subst eU
    have e := h.atU
    have hsf := h.self
    constructor <;> rw [e] <;> simp only
    · intro _
      rw [show (b.length : Int) + 1 - 1 = b.length by omega, h.atN, slot_lk]
      exact ⟨slot_ext.2 (by omega), rfl, rfl, rfl, rfl⟩
    · exact hn
    · exact hpv
    · exact hup
    · exact fun g => hc g fun g2 e2 => (h.fst g2).2.2.2.2.2.2 e2.symm
  have e1 := h.same_first m1 eN eU
  by_cases eF : (nodeAt (exB b) (u : Int)).first ≠ 0 ∧ m = (nodeAt (exB b) (u : Int)).first - 1
  · have e := h.atI m1
    rw [if_neg eN, if_neg eU, if_pos eF] at e
    constructor <;> rw [e] <;> simp only
    · intro g
      obtain ⟨a1, a2, a3, a4, a5⟩ := hp.f g
      have q0 := (slot_ext.1 a1).1
      have q1 : (nodeAt (exB b) m).first - 1 ≠ b.length := fun e => by rw [e, hl, z3] at a4; omega
      obtain ⟨d1, d2, d3, d4, d5⟩ := h.same q0 q1
      refine ⟨by rw [slot_lk]; exact a1, by rw [d1]; exact a2, ?_, by rw [d3]; exact a4, by rw [d4]; exact a5⟩
      rw [h.same_prev q0 q1 fun gF e => ?_]
      · exact a3
      · rw [e] at a4
        have := (h.fst gF).2.2.2.1
        omega
    · exact hn
    · intro _
      rw [show (b.length : Int) + 1 - 1 = b.length by omega, h.atN, slot_lk]
      exact ⟨slot_ext.2 (by omega), rfl, by simp only; omega⟩
    · exact hup
    · intro g; omega
  · have e : nodeAt (lk b u) m = nodeAt (exB b) m := by
      rw [h.atI m1, if_neg eN, if_neg eU, if_neg eF]
    constructor <;> rw [e]
    · intro g
      obtain ⟨a1, a2, a3, a4, a5⟩ := hp.f g
      have q0 := (slot_ext.1 a1).1
      have q1 : (nodeAt (exB b) m).first - 1 ≠ b.length := fun e => by rw [e, hl, z3] at a4; omega
      obtain ⟨d1, d2, d3, d4, d5⟩ := h.same q0 q1
      refine ⟨by rw [slot_lk]; exact a1, by rw [d1]; exact a2, ?_, by rw [d3]; exact a4, by rw [d4]; exact a5⟩
      rw [h.same_prev q0 q1 fun gF e => ?_]
      · exact a3
      · rw [e] at a4
        have := (h.fst gF).2.2.2.1
        omega
    · exact hn
    · exact hpv
    · exact hup
    · exact fun g => hc g fun g2 e2 => eF ⟨g2, e2⟩
theorem TH.riseE {b : List Node} {u : Nat} (h : TH b u) : ∀ (f : Nat) (k : Int), k ≠ b.length → rise (lk b u) f k = rise (exB b) f k
  | 0, _, _ => rfl
  | f + 1, k, hk => by
    cases hs : slotB (exB b) k with
    | false => rw [rise_out hs, rise_out (by rw [slot_lk]; exact hs)]
    | true =>
      have q0 := (slot_ext.1 hs).1
      rw [rise_step hs, rise_step (by rw [slot_lk]; exact hs), (h.same q0 hk).2.2.1, h.riseE f]
      rw [h.par hs]
      have := h.far hs
      omega
theorem TH.inUp {b : List Node} {u : Nat} (h : TH b u) {j : Int} (hj : slotB (exB b) j = true) (hn : j ≠ b.length) : inUpB (lk b u) j = inUpB (exB b) j := by
  have q0 := (slot_ext.1 hj).1
  rw [Bool.eq_iff_iff, inUp_iff (h.sm hj), inUp_iff (h.node hj).sm, slot_lk]
  obtain ⟨-, -, c3, c4, -⟩ := h.same q0 hn
  rw [c3, c4]
  constructor
  · rintro ⟨g1, g2, g3⟩
    obtain ⟨d1, d2, -⟩ := h.same (slot_ext.1 g1).1 (by have := h.far hj; omega)
    exact ⟨g1, by rw [← d1]; exact g2, by rw [← d2]; exact g3⟩
  · rintro ⟨g1, g2, g3⟩
    obtain ⟨d1, d2, -⟩ := h.same (slot_ext.1 g1).1 (by have := h.far hj; omega)
    exact ⟨g1, by rw [d1]; exact g2, by rw [d2]; exact g3⟩
theorem lk_len (b : List Node) (u : Nat) : (lk b u).length = b.length + 1 := by rw [link_len, exB_len]
/-- u's way up is shorter than the table. -/
theorem TH.short {b : List Node} {u : Nat} (h : TH b u) : (rise (exB b) (b.length + 1) u).length ≤ b.length := by
  have hL := h.len
  have hU := h.up
  have hd := h.deep
  rw [exB_len] at hd
  obtain ⟨n, h1, h2, h3⟩ := h.ends
  have hle := rise_len (exB b) (b.length + 1) u
  obtain ⟨hsl, hst⟩ := rise_at (exB b) (b.length + 1) u
  have hne := h.ne (b.length + 1) u (by omega)
  by_cases hlt : (rise (exB b) (b.length + 1) u).length ≤ b.length
  · exact hlt
  exfalso
  generalize hw : rise (exB b) (b.length + 1) u = way at *
  have mem : ∀ i, i < way.length → way.getD i 0 ∈ way := fun i hi => by rw [getD_eq hi]; exact List.getElem_mem _
  have bnd : ∀ i, i < way.length → 0 ≤ way.getD i 0 ∧ way.getD i 0 < b.length := fun i hi => by
    have h4 := slot_ext.1 (hsl _ (mem i hi))
    have h5 := hne _ (mem i hi)
    omega
  have nx : ∀ i, i + 1 < way.length → way.getD (i + 1) 0 = (nodeAt (exB b) (way.getD i 0)).up - 1 := fun i hi => by
    rw [hst i hi, h.par (hsl _ (mem i (by omega)))]
  have hN : b.length = 1 ∨ b.length = 2 := by omega
  rcases hN with hN | hN
  · have b0 := bnd 0 (by omega)
    have b1 := bnd 1 (by omega)
    have n0 := nx 0 (by omega)
    have : n = 1 := by omega
    subst this
    rw [show way.getD 1 0 = way.getD 0 0 by omega] at h2
    rw [show 0 + 1 = 1 from rfl] at n0
    omega
  · have b0 := bnd 0 (by omega)
    have b1 := bnd 1 (by omega)
    have b2 := bnd 2 (by omega)
    have n0 := nx 0 (by omega)
    have n1 := nx 1 (by omega)
    rw [show 0 + 1 = 1 from rfl] at n0
    rw [show 1 + 1 = 2 from rfl] at n1
    have : n = 2 := by omega
    subst this
    by_cases e01 : way.getD 0 0 = way.getD 1 0
    · rw [← e01] at n1
      rw [show way.getD 2 0 = way.getD 0 0 by omega] at h2
      omega
    · by_cases e02 : way.getD 0 0 = way.getD 2 0
      · rw [← e02] at h2
        omega
      · have e12 : way.getD 1 0 = way.getD 2 0 := by omega
        rw [← e12] at h2
        omega
theorem TH.riseN {b : List Node} {u : Nat} (h : TH b u) : rise (lk b u) (b.length + 1) b.length = (b.length : Int) :: rise (exB b) (b.length + 1) u := by
  have hL := h.len
  have hU := h.up
  rw [rise_step (by rw [slot_lk]; exact slot_ext.2 (by omega)), h.atN]
  simp only
  rw [show (u : Int) + 1 - 1 = u by omega, wrap_id (n := (u : Int)) (by omega) (by omega), h.riseE _ _ (by omega), rise_take, List.take_of_length_le h.short]
theorem TH.treeX {b : List Node} {u : Nat} (h : TH b u) : treeB (lk b u) = true := by
  have hL := h.len
  have hU := h.up
  refine tree_iff.2 fun k hk hs => ?_
  rw [lk_len] at hk
  have sl : slotB (exB b) (k : Int) = true := slot_ext.2 (by omega)
  refine ⟨(link_iff (by omega) (h.sm sl)).2 (h.linkP sl hs), ?_⟩
  by_cases eN : k = b.length
  · subst eN
    obtain ⟨n, n1, n2, n3⟩ := h.ends
    unfold tailB lastR
    rw [lk_len, h.riseN]
    have hd := h.deep
    rw [exB_len] at hd
    rw [List.length_cons, Bool.and_eq_true, decide_eq_true_eq]
    refine ⟨by omega, ?_⟩
    rw [n1, Nat.add_sub_cancel, List.getD_cons_succ]
    have g1 := (rise_at (exB b) (b.length + 1) u).1 _ n3
    have g2 := h.ne _ _ (by omega) _ n3
    rw [h.inUp g1 g2]
    cases g : inUpB (exB b) ((rise (exB b) (b.length + 1) u).getD n 0) with
    | false => rfl
    | true =>
      have := (inUp_iff (h.node g1).sm).1 g
      rw [n2] at this
      have := (slot_ext.1 this.1).1
      omega
  · have hs' : (nodeAt (exB b) (k : Int)).st = 1 := by rw [← (h.same (j := (k : Int)) (by omega) (by omega)).1]; exact hs
    have ht := (tree_iff.1 h.tree k (by rw [exB_len]; omega) hs').2
    unfold tailB lastR at ht ⊢
    rw [lk_len, h.riseE _ _ (by omega)]
    rw [exB_len] at ht
    have hp : 0 < (rise (exB b) (b.length + 1) (k : Int)).length := by rw [rise_step sl]; simp
    have hm : (rise (exB b) (b.length + 1) (k : Int)).getD ((rise (exB b) (b.length + 1) (k : Int)).length - 1) 0 ∈ rise (exB b) (b.length + 1) (k : Int) := by
      rw [getD_eq (by omega)]; exact List.getElem_mem _
    rw [h.inUp ((rise_at (exB b) (b.length + 1) k).1 _ hm) (h.ne _ _ (by omega) _ hm)]
    exact ht
theorem TH.aliveX {b : List Node} {u : Nat} (h : TH b u) : aliveB (lk b u) b.length = true := by
  have hL := h.len
  have hU := h.up
  have ha := h.alive
  unfold aliveB wayB at ha ⊢
  rw [lk_len, h.riseN]
  rw [exB_len] at ha
  simp only [Bool.and_eq_true, decide_eq_true_eq, List.all_eq_true, List.mem_range] at ha ⊢
  obtain ⟨h1, h2, h3⟩ := ha
  have hne := h.ne (b.length + 1) u (by omega)
  have hsl := (rise_at (exB b) (b.length + 1) u).1
  have e0 : (rise (exB b) (b.length + 1) u).getD 0 0 = u := by rw [rise_step h.slot]; rfl
  generalize rise (exB b) (b.length + 1) u = way at *
  have at_ : ∀ i, 0 ≤ way.getD i 0 ∧ way.getD i 0 ≠ b.length := fun i => by
    by_cases hi : i < way.length
    · have hm : way.getD i 0 ∈ way := by rw [getD_eq hi]; exact List.getElem_mem _
      exact ⟨(slot_ext.1 (hsl _ hm)).1, hne _ hm⟩
    · have : way.getD i 0 = 0 := by rw [List.getD_eq_getElem?_getD, List.getElem?_eq_none (by omega)]; rfl
      rw [this]; omega
  refine ⟨fun i hi => ?_, by simp, ?_⟩
  · cases i with
    | zero =>
      unfold stepB
      simp only [List.getD_cons_zero, List.getD_cons_succ, Bool.and_eq_true, decide_eq_true_eq]
      rw [h.atN, e0, h.atU]
      refine ⟨rfl, ?_⟩
      split
      · simp
      · rfl
    | succ i =>
      have hi' : i < way.length := by simpa using hi
      have hb := h1 i hi'
      unfold stepB at hb ⊢
      simp only [List.getD_cons_succ]
      obtain ⟨a1, a2⟩ := at_ i
      obtain ⟨b1, b2⟩ := at_ (i + 1)
      obtain ⟨c1, -, -, c4, -⟩ := h.same a1 a2
      obtain ⟨-, d2, -⟩ := h.same b1 b2
      rw [c1, c4, d2]
      by_cases e : i + 1 < way.length
      · rw [if_pos e] at hb
        rw [if_pos (by simp; omega)]
        exact hb
      · rw [if_neg e] at hb
        rw [if_neg (by simp; omega)]
        exact hb
  · obtain ⟨w, hw⟩ : ∃ w, way.length = w + 1 := ⟨way.length - 1, by omega⟩
    rw [hw, Nat.add_sub_cancel] at h3
    rw [List.length_cons, Nat.add_sub_cancel, hw, List.getD_cons_succ]
    obtain ⟨a1, a2⟩ := at_ w
    rw [(h.same a1 a2).2.2.1]
    exact h3
theorem TH.kid {b : List Node} {u : Nat} (h : TH b u) {k : Int} (hk : slotB (exB b) k = true) (hs : (nodeAt (exB b) k).st = 1) (hn : (nodeAt (exB b) k).next ≠ 0) :
    slotB (exB b) ((nodeAt (exB b) k).next - 1) = true ∧ (nodeAt (exB b) ((nodeAt (exB b) k).next - 1)).st = 1 ∧ (nodeAt (exB b) ((nodeAt (exB b) k).next - 1)).prev = k + 1 ∧ (nodeAt (exB b) k).next - 1 ≠ b.length := by
  obtain ⟨a1, a2, a3, -⟩ := (h.link hk hs).n hn
  refine ⟨a1, a2, a3, fun e => ?_⟩
  rw [e, t_last] at a3
  have := (slot_ext.1 hk).1
  have : (newN 0).prev = 0 := rfl
  omega
theorem TH.nxt {b : List Node} {u : Nat} (h : TH b u) {k : Int} (hk : slotB (exB b) k = true) : IntKind.i64.wrap ((nodeAt (exB b) k).next - 1) = (nodeAt (exB b) k).next - 1 := by
  have := (h.node hk).next
  exact wrap_id (by omega) (by omega)
theorem slot_neg {b : List Node} {j : Int} (h : j < 0) : slotB (exB b) j = false := by
  cases g : slotB (exB b) j with
  | false => rfl
  | true => have := (slot_ext.1 g).1; omega
theorem TH.kidsE {b : List Node} {u : Nat} (h : TH b u) : ∀ (f : Nat) (k : Int), slotB (exB b) k = true → (nodeAt (exB b) k).st = 1 → k ≠ b.length → kids (lk b u) f k = kids (exB b) f k
  | 0, _, _, _, _ => rfl
  | f + 1, k, hk, hs, hne => by
    have q0 := (slot_ext.1 hk).1
    rw [kids_step hk, kids_step (by rw [slot_lk]; exact hk), (h.same q0 hne).2.2.2.2, h.nxt hk]
    by_cases hn : (nodeAt (exB b) k).next = 0
    · have s := slot_neg (b := b) (j := (nodeAt (exB b) k).next - 1) (by omega)
      rw [kids_out s, kids_out (by rw [slot_lk]; exact s)]
    · obtain ⟨a1, a2, -, a4⟩ := h.kid hk hs hn
      rw [h.kidsE f _ a1 a2 a4]
/-- The children of u are fewer than the rooms. -/
theorem TH.few {b : List Node} {u : Nat} (h : TH b u) {k : Int} (hk : slotB (exB b) k = true) (hs : (nodeAt (exB b) k).st = 1) (hne : k ≠ b.length) (hp : (nodeAt (exB b) k).prev = 0) : (kids (exB b) (b.length + 1) k).length ≤ b.length := by
  by_cases hlt : (kids (exB b) (b.length + 1) k).length ≤ b.length
  · exact hlt
  exfalso
  have hle := kids_len (exB b) (b.length + 1) k
  have full := kids_full (l := exB b) (b.length + 1) k (by omega)
  generalize hg : (fun k => IntKind.i64.wrap ((nodeAt (exB b) k).next - 1)) = g at full
  have nx : ∀ i, i ≤ b.length → (slotB (exB b) (it g i k) = true ∧ (nodeAt (exB b) (it g i k)).st = 1 ∧ it g i k ≠ b.length) ∧ ∀ j, i = j + 1 → (nodeAt (exB b) (it g i k)).prev = it g j k + 1 := fun i => by
    induction i with
    | zero => exact fun _ => ⟨⟨hk, hs, hne⟩, fun j hj => by omega⟩
    | succ i ih =>
      intro hi
      obtain ⟨⟨s1, s2, s3⟩, -⟩ := ih (by omega)
      have f2 := full (i + 1) (by omega)
      rw [it_succ] at f2 ⊢
      have e : g (it g i k) = (nodeAt (exB b) (it g i k)).next - 1 := by
        rw [← h.nxt s1, ← hg]
      rw [e] at f2 ⊢
      have hn : (nodeAt (exB b) (it g i k)).next ≠ 0 := fun e0 => by
        rw [e0] at f2
        have := (slot_ext.1 f2).1
        omega
      obtain ⟨a1, a2, a3, a4⟩ := h.kid s1 s2 hn
      exact ⟨⟨a1, a2, a4⟩, fun j hj => by rw [a3]; have : i = j := by omega
                                          rw [this]⟩
  have inj : ∀ i j, i < j → j ≤ b.length → it g i k ≠ it g j k := fun i => by
    induction i with
    | zero =>
      intro j hj hb e
      have h1 := (nx j hb).2 (j - 1) (by omega)
      rw [← e] at h1
      have h2 := (slot_ext.1 (nx (j - 1) (by omega)).1.1).1
      have h3 : (nodeAt (exB b) (it g 0 k)).prev = 0 := hp
      omega
    | succ i ih =>
      intro j hj hb e
      have h1 := (nx j hb).2 (j - 1) (by omega)
      have h2 := (nx (i + 1) (by omega)).2 i rfl
      rw [e, h1] at h2
      exact ih (j - 1) (by omega) (by omega) (by omega)
  have nod : ((List.range (b.length + 1)).map fun i => it g i k).Nodup := by
    unfold List.Nodup
    rw [List.pairwise_map]
    refine List.Pairwise.imp_of_mem (R := fun a b => a < b) (fun {x y} hx hy hxy => ?_) List.pairwise_lt_range
    exact inj x y hxy (by have := List.mem_range.1 hy; omega)
  have := pigeon b.length _ nod fun x hx => by
    obtain ⟨i, hi, rfl⟩ := List.mem_map.1 hx
    obtain ⟨⟨s1, -, s3⟩, -⟩ := nx i (by have := List.mem_range.1 hi; omega)
    have := slot_ext.1 s1
    omega
  simp at this
  omega
theorem TH.kidsX {b : List Node} {u : Nat} (h : TH b u) : kidsL (lk b u) ((b.length : Int) + 1) = (b.length : Int) :: kidsL (exB b) (nodeAt (exB b) (u : Int)).first := by
  have hL := h.len
  have hf := (h.node h.slot).first
  unfold kidsL
  rw [lk_len, exB_len, wrap_id (n := (b.length : Int) + 1 - 1) (by omega) (by omega), show (b.length : Int) + 1 - 1 = b.length by omega, kids_step (by rw [slot_lk]; exact slot_ext.2 (by omega)), h.atN]
  simp only
  rw [wrap_id (n := (nodeAt (exB b) (u : Int)).first - 1) (by omega) (by omega)]
  by_cases hF : (nodeAt (exB b) (u : Int)).first = 0
  · have s := slot_neg (b := b) (j := (nodeAt (exB b) (u : Int)).first - 1) (by omega)
    rw [kids_out s, kids_out (by rw [slot_lk]; exact s)]
  · obtain ⟨f1, f2, f3, f4, f5, f6, f7⟩ := h.fst hF
    rw [h.kidsE _ _ f1 f2 f6, kids_take, List.take_of_length_le (h.few f1 f2 f6 f3)]
end Go.Proofs.Ythmpdfmdhfgaaaa
