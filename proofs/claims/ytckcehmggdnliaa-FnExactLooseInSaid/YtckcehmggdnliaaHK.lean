/- Contracts of small functions: whether a node is valid, as the program says it. -/
import Derived.Test.YtckcehmggdnliaaHJ
namespace Go.Proofs.Ytckcehmggdnliaa
open Go Go.Proofs.Ytckcehmggdnliaa.DL
set_option maxRecDepth 100000

theorem any_not {α : Type} (p : α → Bool) (l : List α) : (l.any fun t => !p t) = !l.all p := by
  induction l with
  | nil => rfl
  | cons a l ih => simp only [List.any_cons, List.all_cons, ih, Bool.not_and]
theorem c_NodeOk (c : Conf) {n : Node} (hn : n.ok) (hs : n.sz ≤ 1048576) : CallD Try.prog F_impl_NodeOk [confS c, rNode n] fun r _ => r = bS (nodeOk c n) := by
  unfold Node.sz at hs
  have hthings : ∀ t ∈ n.things, t.ok := hn.2.2.2.2.2.2.2.2.2.2.2.1.2
  have h1 : n.chunks.length ≤ M63 := by unfold M63; omega
  have h2 : n.things.length ≤ M63 := by unfold M63; omega
  have h3 : n.tags.length ≤ M63 := by unfold M63; omega
  refine k_impl_NodeOk ?_
  unfold vc_impl_NodeOk nodeOk
  refine ⟨_, c_confOk c, fun g1 => ⟨_, c_within _ _ _, fun g2 => ⟨_, c_within _ _ _, fun g3 => ⟨fun g4 => ⟨_, c_Bare h1 h2 h3, fun g5 => bS_eq ?_, fun g5 => bS_eq ?_⟩, fun g4 => ?_⟩, fun g3 => bS_eq ?_⟩, fun g2 => bS_eq ?_⟩, fun g1 => bS_eq ?_⟩
  · simp_all
  · simp_all
  · have e4 : n.st = 1 := by simpa using g4
    have hg := Conf.good_iff.1 g1
    rw [g1, g2, g3, if_pos e4]
    simp only [Bool.true_and]
    have eL : [iV n.up, iV n.first, iV n.next, iV n.prev] = ints [n.up, n.first, n.next, n.prev] := rfl
    simp only [eL, nI, n_ints, n_things]
    have h4 : [n.up, n.first, n.next, n.prev].length = 4 := rfl
    have links : liveB c n = true → ∀ j (hj : j < [n.up, n.first, n.next, n.prev].length), within [n.up, n.first, n.next, n.prev][j] 0 c.slots = true := fun h j hj => by
      simp only [liveB, Bool.and_eq_true] at h
      obtain ⟨-, -, k1, k2, k3, k4, -⟩ := h
      match j, hj with
      | 0, _ => exact k1
      | 1, _ => exact k2
      | 2, _ => exact k3
      | 3, _ => exact k4
    have back : (∀ j (hj : j < [n.up, n.first, n.next, n.prev].length), within [n.up, n.first, n.next, n.prev][j] 0 c.slots = true) → within n.up 0 c.slots = true ∧ within n.first 0 c.slots = true ∧ within n.next 0 c.slots = true ∧ within n.prev 0 c.slots = true :=
      fun h => ⟨h 0 (by simp), h 1 (by simp), h 2 (by simp), h 3 (by simp)⟩
    generalize [n.up, n.first, n.next, n.prev] = L at *
    clear eL
    refine ⟨fun i m => ∃ k : Nat, i = k ∧ k ≤ L.length ∧ m = L.length - k ∧ ∀ j (hj : j < L.length), j < k → within L[j] 0 c.slots = true, ⟨L.length, 0, rfl, Nat.zero_le _, rfl, fun j hj h => by omega⟩, ?_⟩
    rintro i m ⟨k, rfl, hk, rfl, ht⟩
    simp only [Int.toNat_natCast, Nat.mul_one, decide_eq_true_eq (p := (k : Int) < L.length), decide_eq_false_iff_not (p := (k : Int) < L.length)]
    refine ⟨fun k1 => ?_, fun k1 => ?_⟩
    · have ha : k < L.length := by omega
      have p0 : (DV.sl 1 (ints L)).getP [k] = iV L[k] := by
        show (ints L).getD k dfl = _
        rw [getD_ints ha, getD_eq ha]
      have p2 : placeOk (oneC (CV.own (DV.sl 1 (ints L)))) [k] := ⟨by rw [es_sl, ints_length]; exact ha, trivial⟩
      simp only [p0, isI_iV, asI_iV]
      refine ⟨by omega, by omega, p2, trivial, _, c_within _ _ _, fun k2 => ⟨⟨trivial, trivial, trivial, trivial⟩, L.length - (k + 1), by omega, k + 1, by rw [wrap_id] <;> omega, by omega, rfl, fun j hj hjk => ?_⟩, fun k2 => bS_eq ?_⟩
      · by_cases e : j = k
        · subst e; exact k2
        · exact ht j hj (by omega)
      · cases e : liveB c n with
        | false => rfl
        | true => rw [links e k ha] at k2; cases k2
    · obtain ⟨q1, q2, q3, q4⟩ := back fun j hj => ht j hj (by omega)
      have any := any_not (thingOk c) n.things
      have cB : chunksB c n = (distB c n.chunks && (if n.cur = 0 then decide (n.bump = 0) else has n.chunks (IntKind.i64.wrap (n.cur - 1)) && within n.bump 0 c.size)) := rfl
      clear links back ht hk k1
      unfold liveB
      rw [q1, q2, q3, q4]
      have neg : ∀ {a b : Int}, decide (a < b) = true → decide (b ≤ a) = false := fun h => by simp only [decide_eq_true_eq, decide_eq_false_iff_not] at *; omega
      have pos : ∀ {a b : Int}, decide (a < b) = false → decide (b ≤ a) = true := fun h => by simp only [decide_eq_true_eq, decide_eq_false_iff_not] at *; omega
      have hfn : ∀ t ∈ n.things, CallD Try.prog F_impl_NodeOk_1 (thingS t :: [[iV c.chunks, iV c.size, iV c.slots, iV c.tax, iV c.slice, iV c.gens]].map SV.rptr) fun r _ => r = bS (!thingOk c t) := fun t ht => by
        refine k_impl_NodeOk_1 ?_
        unfold vc_impl_NodeOk_1
        simp only [hdD_cons, asI_iV, isI_iV]
        exact ⟨by simp, trivial, trivial, trivial, trivial, trivial, trivial, _, c_ThingOk c (hthings t ht), fun h => bS_eq (by rw [h]), fun h => bS_eq (by rw [h])⟩
      refine ⟨fun g5 => bS_eq ?_, fun g5 => ⟨fun g6 => bS_eq ?_, fun g6 => ⟨_, c_distinct c h1, fun g7 => ⟨fun g8 => ⟨_, c_Contains h1 _, fun g9 => ⟨_, c_within _ _ _, fun g10 => ⟨fun g11 => ?_, fun g11 => ?_⟩, fun g10 => bS_eq ?_⟩, fun g9 => bS_eq ?_⟩,
        fun g8 => ⟨_, c_within _ _ _, fun g10 => ⟨fun g11 => ⟨fun g12 => bS_eq ?_, fun g12 => ?_⟩, fun g11 => ?_⟩, fun g10 => bS_eq ?_⟩⟩, fun g7 => bS_eq ?_⟩⟩⟩
      · rw [neg g5]; rfl
      · rw [neg g6]; simp
      · rw [g11] at g8; cases g8
      · have eB : chunksB c n = true := by
          have : n.cur ≠ 0 := by simpa using g11
          rw [cB, g7, if_neg this, g9, g10]; rfl
        rw [pos g5, pos g6, eB]
        simp only [Bool.true_and]
        refine ⟨fun t1 => ⟨fun t2 => ⟨_, c_areBytes h3, fun t3 => ⟨_, c_ContainsThing (p := fun t => !thingOk c t) h2 hfn, fun t4 => bS_eq ?_, fun t4 => bS_eq ?_⟩, fun t3 => bS_eq ?_⟩, fun t2 => bS_eq ?_⟩, fun t1 => bS_eq ?_⟩
        · rw [any] at t4; simp_all
        · rw [any] at t4; simp_all
        · rw [t3]; simp
        · rw [t2]; simp
        · rw [t1]; simp
      · have : n.cur ≠ 0 := by simpa using g8
        rw [cB, if_neg this, g10]; simp
      · have : n.cur ≠ 0 := by simpa using g8
        rw [cB, if_neg this, g9]; simp
      · have e0 : n.cur = 0 := by simpa using g11
        have e1 : decide (n.bump = 0) = false := by simpa using g12
        rw [cB, if_pos e0, e1]; simp
      · have eB : chunksB c n = true := by
          have e0 : n.cur = 0 := by simpa using g11
          have e1 : decide (n.bump = 0) = true := by simpa using g12
          rw [cB, g7, if_pos e0, e1]; rfl
        rw [pos g5, pos g6, eB]
        simp only [Bool.true_and]
        refine ⟨fun t1 => ⟨fun t2 => ⟨_, c_areBytes h3, fun t3 => ⟨_, c_ContainsThing (p := fun t => !thingOk c t) h2 hfn, fun t4 => bS_eq ?_, fun t4 => bS_eq ?_⟩, fun t3 => bS_eq ?_⟩, fun t2 => bS_eq ?_⟩, fun t1 => bS_eq ?_⟩
        · rw [any] at t4; simp_all
        · rw [any] at t4; simp_all
        · rw [t3]; simp
        · rw [t2]; simp
        · rw [t1]; simp
      · rw [g11] at g8; cases g8
      · have e0 : n.cur = 0 := by simpa using g8
        have e1 : decide (n.bump = 0) = false := by
          simp only [decide_eq_false_iff_not]
          intro e
          rw [e, within_false] at g10
          omega
        rw [cB, if_pos e0, e1]; simp
      · rw [cB, g7]; simp
  · rw [g3]; simp
  · rw [g2]; simp
  · rw [g1]; simp
end Go.Proofs.Ytckcehmggdnliaa
