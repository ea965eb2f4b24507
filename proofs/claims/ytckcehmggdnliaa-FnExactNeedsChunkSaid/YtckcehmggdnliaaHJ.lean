/- Contracts of small functions: nodes that are equal, bare, valid. -/
import Derived.Test.YtckcehmggdnliaaHI
namespace Go.Proofs.Ytckcehmggdnliaa
open Go Go.Proofs.Ytckcehmggdnliaa.DL
set_option maxRecDepth 100000

theorem Node.eq_iff (x y : Node) : x = y ↔ x.st = y.st ∧ x.gen = y.gen ∧ x.ep = y.ep ∧ x.up = y.up ∧ x.upEp = y.upEp ∧ x.first = y.first ∧ x.next = y.next ∧ x.prev = y.prev ∧ x.chunks = y.chunks ∧ x.cur = y.cur ∧ x.bump = y.bump ∧ x.things = y.things ∧ x.tags = y.tags := by
  constructor
  · rintro rfl; exact ⟨rfl, rfl, rfl, rfl, rfl, rfl, rfl, rfl, rfl, rfl, rfl, rfl, rfl⟩
  · cases x; cases y; rintro ⟨h1, h2, h3, h4, h5, h6, h7, h8, h9, h10, h11, h12, h13⟩; simp_all
instance : DecidableEq Node := fun x y => decidable_of_iff _ (Node.eq_iff x y).symm
theorem c_SameNode {x y : Node} (h1 : x.chunks.length ≤ M63) (h2 : x.things.length ≤ M63) (h3 : x.tags.length ≤ M63) : CallD Try.prog F_impl_SameNode [rNode x, rNode y] fun r _ => r = bS (decide (x = y)) := by
  have e1 := c_EqualI (b := y.chunks) h1
  have e2 := c_EqualT (b := y.things) h2
  have e3 := c_EqualI (b := y.tags) h3
  refine k_impl_SameNode ?_
  unfold vc_impl_SameNode
  repeat' (first | exact e1 | exact e2 | exact e3 | apply And.intro | intro _ | apply Exists.intro)
  all_goals (clear e1 e2 e3 h1 h2 h3; refine bS_eq ?_; simp_all [Node.eq_iff])
def bareB (n : Node) : Bool := decide (n.ep = 0) && (decide (n.up = 0) && (decide (n.upEp = 0) && (decide (n.first = 0) && (decide (n.next = 0) && (decide (n.prev = 0) && (decide (n.chunks = []) && (decide (n.cur = 0) && (decide (n.bump = 0) && (decide (n.things = []) && decide (n.tags = []))))))))))
theorem c_Bare {n : Node} (h1 : n.chunks.length ≤ M63) (h2 : n.things.length ≤ M63) (h3 : n.tags.length ≤ M63) : CallD Try.prog F_impl_Bare [rNode n] fun r _ => r = bS (bareB n) := by
  refine k_impl_Bare ?_
  unfold vc_impl_Bare
  have e : decide (n = ⟨n.st, n.gen, 0, 0, 0, 0, 0, 0, [], 0, 0, [], []⟩) = bareB n := by
    rw [Bool.eq_iff_iff, decide_eq_true_eq, Node.eq_iff]
    simp [bareB]
  have := c_SameNode (x := n) (y := ⟨n.st, n.gen, 0, 0, 0, 0, 0, 0, [], 0, 0, [], []⟩) h1 h2 h3
  rw [e] at this
  exact ⟨_, this, fun h => bS_eq h.symm, fun h => bS_eq h.symm⟩
theorem c_BareS (n : Node) : CallD Try.prog F_spec_Bare [rNode n] fun r _ => r = bS (bareB n) := by
  refine k_spec_Bare ?_
  unfold vc_spec_Bare
  have e1 : decide (nI (DV.sl 1 (ints n.chunks)).n = 0) = decide (n.chunks = []) := by simp [nI, n_ints]
  have e2 : decide (nI (DV.sl 3 (thgs n.things)).n = 0) = decide (n.things = []) := by simp [nI, n_things]
  have e3 : decide (nI (DV.sl 1 (ints n.tags)).n = 0) = decide (n.tags = []) := by simp [nI, n_ints]
  simp only [e1, e2, e3]
  repeat' (first | apply And.intro | intro _)
  all_goals refine bS_eq ?_; simp_all [bareB]
def chunksB (c : Conf) (n : Node) : Bool := distB c n.chunks && (if n.cur = 0 then decide (n.bump = 0) else has n.chunks (IntKind.i64.wrap (n.cur - 1)) && within n.bump 0 c.size)
theorem c_l7Chunks (c : Conf) {n : Node} (hl : n.chunks.length ≤ 1048576) : CallD Try.prog F_spec_l7Chunks [confS c, rNode n] fun r _ => r = bS (chunksB c n) := by
  have hM : n.chunks.length ≤ M63 := by unfold M63; omega
  refine k_spec_l7Chunks ?_
  unfold vc_spec_l7Chunks chunksB
  generalize n.chunks = l at *
  simp only [nI, n_ints]
  refine ⟨fun i m => ∃ k : Nat, i = k ∧ k ≤ l.length ∧ m = l.length - k ∧ ∀ i (hi : i < l.length), i < k → within l[i] 0 (IntKind.i64.wrap (c.chunks - 1)) = true ∧ has (l.take i) l[i] = false, ⟨l.length, 0, rfl, Nat.zero_le _, rfl, fun j hj h => by omega⟩, ?_⟩
  rintro i m ⟨k, rfl, hk, rfl, ht⟩
  simp only [Int.toNat_natCast, decide_eq_true_eq (p := (k : Int) < l.length), decide_eq_false_iff_not (p := (k : Int) < l.length), Nat.mul_one, take_ints, Int.toNat_zero, List.drop_zero]
  refine ⟨fun h1 => ?_, fun h1 => ?_⟩
  · have ha : k < l.length := by omega
    have hlk : (l.take k).length ≤ M63 := by unfold M63; simp; omega
    simp only [hd_ints ha, getD_eq ha, isI_iV, asI_iV, wrap_id (n := (k : Int) + 1) (by omega) (by omega)]
    refine ⟨by omega, by omega, by simp [ints]; omega, trivial, _, c_l1In _ _ _, fun h2 => ⟨by omega, by omega, by omega, by omega, by omega, by simp [ints]; omega, trivial, _, c_has hlk _, fun h3 => bS_eq ?_, fun h3 => ⟨⟨trivial, trivial⟩, l.length - (k + 1), by omega, k + 1, by omega, by omega, rfl, fun j hj hjk => ?_⟩⟩, fun h2 => bS_eq ?_⟩
    · rw [distB_false ha (.inr h3)]; rfl
    · by_cases e : j = k
      · subst e; exact ⟨h2, h3⟩
      · exact ht j hj (by omega)
    · rw [distB_false ha (.inl h2)]; rfl
  · rw [distB_iff.2 fun i hi => ht i hi (by omega)]
    refine ⟨fun g1 => ⟨fun g2 => bS_eq ?_, fun g2 => bS_eq ?_⟩, fun g1 => ⟨_, c_has hM _, fun g2 => ⟨_, c_l1In _ _ _, fun g3 => bS_eq ?_, fun g3 => bS_eq ?_⟩, fun g2 => bS_eq ?_⟩⟩ <;> simp_all
def liveB (c : Conf) (n : Node) : Bool := decide (0 ≤ n.ep) && (decide (0 ≤ n.upEp) && (within n.up 0 c.slots && (within n.first 0 c.slots && (within n.next 0 c.slots && (within n.prev 0 c.slots && (chunksB c n &&
  (decide ((n.things.length : Int) ≤ 12) && (decide ((n.tags.length : Int) ≤ 6) && (n.things.all (thingOk c) && bytesB n.tags)))))))))
def nodeOk (c : Conf) (n : Node) : Bool := c.good && (within n.st 0 3 && (within n.gen 1 c.gens && (if n.st = 1 then liveB c n else bareB n)))
theorem all_false {α : Type} {p : α → Bool} {l : List α} {k : Nat} (hk : k < l.length) (h : p l[k] = false) : l.all p = false := by
  cases e : l.all p with
  | false => rfl
  | true => have := List.all_eq_true.1 e _ (List.getElem_mem hk); rw [h] at this; cases this
theorem all_true {α : Type} {p : α → Bool} {l : List α} (h : ∀ i (hi : i < l.length), p l[i] = true) : l.all p = true := by
  rw [List.all_eq_true]
  intro x hx
  obtain ⟨i, hi, rfl⟩ := List.mem_iff_getElem.1 hx
  exact h i hi
theorem c_NodeOkS (c : Conf) {n : Node} (hn : n.ok) (hs : n.sz ≤ 1048576) : CallD Try.prog F_spec_NodeOk [confS c, rNode n] fun r _ => r = bS (nodeOk c n) := by
  unfold Node.sz at hs
  have hthings : ∀ t ∈ n.things, t.ok := hn.2.2.2.2.2.2.2.2.2.2.2.1.2
  refine k_spec_NodeOk ?_
  unfold vc_spec_NodeOk nodeOk
  simp only [nI, n_ints, n_things]
  have neg : ∀ {a b : Int}, decide (a < b) = true → decide (b ≤ a) = false := fun h => by simp only [decide_eq_true_eq, decide_eq_false_iff_not] at *; omega
  have pos : ∀ {a b : Int}, decide (a < b) = false → decide (b ≤ a) = true := fun h => by simp only [decide_eq_true_eq, decide_eq_false_iff_not] at *; omega
  refine ⟨_, c_confOkS c, fun g1 => ⟨_, c_l1In _ _ _, fun g2 => ⟨_, c_l1In _ _ _, fun g3 => ⟨fun g4 => ⟨_, c_BareS n, fun g5 => bS_eq ?_, fun g5 => bS_eq ?_⟩, fun g4 => ?_⟩, fun g3 => bS_eq ?_⟩, fun g2 => bS_eq ?_⟩, fun g1 => bS_eq ?_⟩
  · simp_all
  · simp_all
  · have e4 : n.st = 1 := by simpa using g4
    rw [g1, g2, g3, if_pos e4]
    simp only [Bool.true_and, liveB]
    refine ⟨fun g5 => bS_eq ?_, fun g5 => ⟨fun g6 => bS_eq ?_, fun g6 => ⟨_, c_l1In _ _ _, fun g7 => ⟨_, c_l1In _ _ _, fun g8 => ⟨_, c_l1In _ _ _, fun g9 => ⟨_, c_l1In _ _ _, fun g10 => ⟨_, c_l7Chunks c (by omega), fun g11 => ⟨fun g12 => bS_eq ?_, fun g12 => ⟨fun g13 => bS_eq ?_, fun g13 => ?_⟩⟩,
      fun g11 => bS_eq ?_⟩, fun g10 => bS_eq ?_⟩, fun g9 => bS_eq ?_⟩, fun g8 => bS_eq ?_⟩, fun g7 => bS_eq ?_⟩⟩⟩
    · rw [neg g5]; rfl
    · rw [neg g6]; simp
    · rw [neg g12]; simp
    · rw [neg g13]; simp
    · rw [pos g5, pos g6, g7, g8, g9, g10, g11, pos g12, pos g13]
      simp only [Bool.true_and]
      generalize n.things = l at *
      refine ⟨fun i m => ∃ k : Nat, i = k ∧ k ≤ l.length ∧ m = l.length - k ∧ ∀ i (hi : i < l.length), i < k → thingOk c l[i] = true, ⟨l.length, 0, rfl, Nat.zero_le _, rfl, fun j hj h => by omega⟩, ?_⟩
      rintro i m ⟨k, rfl, hk, rfl, ht⟩
      simp only [Int.toNat_natCast, decide_eq_true_eq (p := (k : Int) < l.length), decide_eq_false_iff_not (p := (k : Int) < l.length)]
      refine ⟨fun h1 => ?_, fun h1 => ?_⟩
      · have ha : k < l.length := by omega
        simp only [drop_things ha, hdD_cons, List.tail_cons, isI_iV, asI_iV, wrap_id (n := (k : Int) + 1) (by omega) (by omega)]
        refine ⟨by omega, by omega, by simp, trivial, trivial, trivial, _, c_ThingOkS c (hthings _ (List.getElem_mem ha)), fun h2 => ⟨⟨trivial, trivial⟩, l.length - (k + 1), by omega, k + 1, by omega, by omega, rfl, fun j hj hjk => ?_⟩, fun h2 => bS_eq ?_⟩
        · by_cases e : j = k
          · subst e; exact h2
          · exact ht j hj (by omega)
        · rw [all_false ha h2]; rfl
      · rw [all_true fun i hi => ht i hi (by omega)]
        clear ht h1 hk
        simp only [Bool.true_and]
        generalize n.tags = l at *
        refine ⟨fun i m => ∃ k : Nat, i = k ∧ k ≤ l.length ∧ m = l.length - k ∧ ∀ i (hi : i < l.length), i < k → within l[i] 0 255 = true, ⟨l.length, 0, rfl, Nat.zero_le _, rfl, fun j hj h => by omega⟩, ?_⟩
        rintro i m ⟨k, rfl, hk, rfl, ht⟩
        simp only [Int.toNat_natCast, Nat.mul_one, decide_eq_true_eq (p := (k : Int) < l.length), decide_eq_false_iff_not (p := (k : Int) < l.length)]
        refine ⟨fun k1 => ?_, fun k1 => bS_eq ?_⟩
        · have ha : k < l.length := by omega
          simp only [hd_ints ha, getD_eq ha, isI_iV, asI_iV, wrap_id (n := (k : Int) + 1) (by omega) (by omega)]
          refine ⟨by omega, by omega, by simp [ints]; omega, trivial, _, c_l1In _ _ _, fun k2 => ⟨trivial, l.length - (k + 1), by omega, k + 1, by omega, by omega, rfl, fun j hj hjk => ?_⟩, fun k2 => bS_eq ?_⟩
          · by_cases e : j = k
            · subst e; exact k2
            · exact ht j hj (by omega)
          · rw [bytesB_false ha k2]
        · rw [bytesB_iff.2 fun i hi => ht i hi (by omega)]
    · rw [g11]; simp
    · rw [g10]; simp
    · rw [g9]; simp
    · rw [g8]; simp
    · rw [g7]; simp
  · rw [g3]; simp
  · rw [g2]; simp
  · rw [g1]; simp
end Go.Proofs.Ytckcehmggdnliaa
