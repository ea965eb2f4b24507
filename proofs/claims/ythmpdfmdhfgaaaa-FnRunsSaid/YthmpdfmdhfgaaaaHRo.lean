/- Contracts of small functions: a run taken; what is drawn for it. -/
import Derived.Test.YthmpdfmdhfgaaaaHRn
import Derived.Test.YthmpdfmdhfgaaaaVHRo
namespace Go.Proofs.Ythmpdfmdhfgaaaa
open Go Go.Proofs.Ythmpdfmdhfgaaaa.DL
set_option maxRecDepth 100000

/-- n numbers from a on are v. -/
def setR (l : List Int) (a n : Nat) (v : Int) : List Int := l.take a ++ (List.replicate n v ++ l.drop (a + n))
theorem setR_zero (l : List Int) (a : Nat) (v : Int) : setR l a 0 v = l := by simp [setR]
theorem setR_length {l : List Int} {a n : Nat} {v : Int} (h : a + n ≤ l.length) : (setR l a n v).length = l.length := by
  unfold setR; simp; omega
theorem setR_step {l : List Int} {a n : Nat} {v : Int} (h : a + n < l.length) : (setR l a n v).set (a + n) v = setR l a (n + 1) v := by
  unfold setR
  have e : l.drop (a + n) = l[a + n] :: l.drop (a + (n + 1)) := by rw [List.drop_eq_getElem_cons h]; rfl
  rw [e, List.set_append_right _ _ (by simp; omega), List.set_append_right _ _ (by simp; omega)]
  have e2 : a + n - (List.take a l).length - (List.replicate n v).length = 0 := by simp; omega
  rw [e2, List.set_cons_zero, List.replicate_succ', List.append_assoc]
  rfl
def takB (p : Pool) (b m : Int) : Bool := freeB p.st b m && decide (p.own.length = p.st.length)
def takP (p : Pool) (b m s : Int) : Pool := if takB p b m then { p with st := setR p.st b.toNat m.toNat 1, own := setR p.own b.toNat m.toNat s } else p
theorem takP_no {p : Pool} {b m : Int} (s : Int) (h : takB p b m = false) : takP p b m s = p := by unfold takP; rw [h]; rfl
/-- The loop that takes. -/
def takK (Q : SV → List SV → Prop) (b c d : Int) (a0 a1 a2 : CV) (es1 es2 es3 : List DV) (dd : List SV) : Prop :=
  ∃ (I : List DV → List DV → List DV → Int → Nat → Prop), (∃ (n : Nat), I es1 es2 es3 b n) ∧ ∀ (es es_3 es_4 : List DV) (n : Int) (n_1 : Nat), I es es_3 es_4 n n_1 → (decide (n < IntKind.i64.wrap (b + c)) = true → 0 ≤ n ∧ n < nI (DV.sl 1 es_3).n ∧ True ∧ n.toNat * 1 + 1 ≤ (DV.sl 1 es_3).es.length ∧ 0 ≤ n ∧ n < nI (DV.sl 1 es_4).n ∧ True ∧ n.toNat * 1 + 1 ≤ (DV.sl 1 es_4).es.length ∧ (oneC (iC b) = oneC (iC b) ∧ oneC (iC c) = oneC (iC c) ∧ oneC (iC d) = oneC (iC d) ∧ SV.box [a0, a1, a2] = SV.box [a0, a1, a2]) ∧ ∃ (m : Nat), m < n_1 ∧ I es (es_3.set (n.toNat * 1) (iV 1)) (es_4.set (n.toNat * 1) (iV d)) (IntKind.i64.wrap (n + 1)) m) ∧ (decide (n < IntKind.i64.wrap (b + c)) = false → Q (aS [CV.own (DV.sl 1 es), CV.own (DV.sl 1 es_3), CV.own (DV.sl 1 es_4)]) dd)
theorem take_loop {p : Pool} (hp : PoolC p) {b c : Int} (d : Int) (h : takB p b c = true) (a0 a1 a2 : CV) (dd : List SV) :
    takK (fun r _ => r = oPool (takP p b c d)) b c d a0 a1 a2 (byts p.mem) (ints p.st) (ints p.own) dd := by
  have hT := h
  unfold takB at h
  rw [Bool.and_eq_true, decide_eq_true_eq] at h
  obtain ⟨h1, h2⟩ := h
  obtain ⟨f1, f2, f3, f4⟩ := free_iff.1 h1
  have hs := hp.st
  obtain ⟨B, rfl⟩ := Int.eq_ofNat_of_zero_le f2
  obtain ⟨C, rfl⟩ := Int.eq_ofNat_of_zero_le (show 0 ≤ c by omega)
  simp only [Int.toNat_natCast] at f3
  unfold takK
  rw [wrap_id (n := (B : Int) + C) (by omega) (by omega)]
  refine ⟨fun e0 e1 e2 i m => e0 = byts p.mem ∧ ∃ k : Nat, i = ((B + k : Nat) : Int) ∧ k ≤ C ∧ m = C - k ∧ e1 = ints (setR p.st B k 1) ∧ e2 = ints (setR p.own B k d), ⟨C, rfl, 0, rfl, by omega, rfl, by rw [setR_zero], by rw [setR_zero]⟩, ?_⟩
  rintro e0 e1 e2 i m ⟨rfl, k, rfl, hk, rfl, rfl, rfl⟩
  have w1 : IntKind.i64.wrap (((B + k : Nat) : Int) + 1) = ((B + (k + 1) : Nat) : Int) := by rw [wrap_id] <;> omega
  have l1 := setR_length (l := p.st) (a := B) (n := k) (v := 1) (by omega)
  have l2 := setR_length (l := p.own) (a := B) (n := k) (v := d) (by omega)
  rw [w1]
  simp only [Int.toNat_natCast, Nat.mul_one, nI, n_ints, set_ints, es_sl, ints_length, l1, l2]
  refine ⟨fun g => ?_, fun g => ?_⟩
  · have g := of_decide_eq_true g
    refine ⟨by omega, by omega, trivial, by omega, by omega, by omega, trivial, by omega, ⟨trivial, trivial, trivial, trivial⟩, C - (k + 1), by omega, trivial, k + 1, rfl, by omega, rfl, by rw [setR_step (by omega)], by rw [setR_step (by omega)]⟩
  · have g := of_decide_eq_false g
    have : k = C := by omega
    subst this
    unfold takP
    rw [if_pos hT]
    rfl
theorem c_takeF (x : Int) : CallD Try.prog F_impl_TakeRun_1 (iS x :: ([] : List (List DV)).map SV.rptr) fun r _ => r = bS (!decide (x = 0)) := by
  refine k_impl_TakeRun_1 ?_
  unfold vc_impl_TakeRun_1
  exact ⟨fun g => bS_eq g.symm, fun g => bS_eq g.symm⟩
theorem c_TakeRun {p : Pool} (hp : PoolC p) {b c : Int} (hb : I64 b) (hc : I64 c) (d : Int) : CallD Try.prog F_impl_TakeRun [rPool p, iS b, iS c, iS d] fun r _ => r = oPool (takP p b c d) := by
  have hs := hp.st
  refine k_impl_TakeRun ?_
  unfold vc_impl_TakeRun
  have no : takB p b c = false → oPool p = oPool (takP p b c d) := fun h => by rw [takP_no d h]
  have nf : freeB p.st b c = false → oPool p = oPool (takP p b c d) := fun h => no (by unfold takB; rw [h]; rfl)
  have h1 := c_hasB (n := p.st.length) hs hb hc
  refine ⟨_, _, _, c_copyPoolC hp, fun g => nf (free_no fun h => ?_), fun g => ⟨there p.st.length b c, ?_, fun g2 => ⟨fun g3 => no ?_, fun g3 => ?_⟩, fun g2 => nf ?_⟩⟩
  · have := of_decide_eq_true g; omega
  · simp only [nI, n_ints]; exact h1
  · unfold takB
    simp only [nI, n_ints] at g3
    rw [decide_eq_false (p := p.own.length = p.st.length) (by simp at g3; omega)]
    simp
  · have g := of_decide_eq_false g
    have ho : p.own.length = p.st.length := by simp only [nI, n_ints] at g3; simp at g3; omega
    have gt := g2
    unfold there at g2
    simp only [Bool.and_eq_true, decide_eq_true_eq] at g2
    obtain ⟨⟨t1, t2⟩, t3⟩ := g2
    have ww : IntKind.i64.wrap (b + c) = b + c := wrap_id (by omega) (by omega)
    have eC : List.drop (b.toNat * 1) (List.take ((IntKind.i64.wrap (b + c)).toNat * 1) (ints p.st)) = ints ((p.st.take (b + c).toNat).drop b.toNat) := by
      rw [ww, Nat.mul_one, Nat.mul_one, take_ints, drop_ints]
    have hcF := c_ContainsFI (l := (p.st.take (b + c).toNat).drop b.toNat) (by simp; unfold M63; omega) (g := F_impl_TakeRun_1) (caps := []) (p := fun x => !decide (x = 0)) (fun t _ => c_takeF t)
    have getm : ∀ j, j < c.toNat → ((p.st.take (b + c).toNat).drop b.toNat)[j]? = some (p.st.getD (b.toNat + j) 0) := fun j hj => by
      rw [List.getElem?_drop, List.getElem?_take_of_lt (by omega), List.getElem?_eq_getElem (by omega), getD_eq (by omega)]
    refine ⟨t1, by rw [ww]; omega, by simp only [nI, n_ints]; rw [ww]; omega, _, by rw [eC]; exact hcF, fun g4 => nf (free_no fun h => ?_), fun g4 => ?_⟩
    · rw [List.any_eq_true] at g4
      obtain ⟨x, hx, hx0⟩ := g4
      obtain ⟨j, hj, rfl⟩ := List.getElem_of_mem hx
      have hj' : j < c.toNat := by simp at hj; omega
      have e := getm j hj'
      rw [List.getElem?_eq_getElem hj] at e
      have e2 := h.2.2.2 (b.toNat + j) (by omega) (by omega)
      rw [e2] at e
      simp only [Option.some.injEq] at e
      rw [e] at hx0
      cases hx0
    · have hT : takB p b c = true := by
        unfold takB
        rw [Bool.and_eq_true]
        refine ⟨free_iff.2 ⟨by omega, t1, by omega, fun j h2 h3 => ?_⟩, decide_eq_true ho⟩
        rw [List.any_eq_false] at g4
        have e := getm (j - b.toNat) (by omega)
        have hm : p.st.getD (b.toNat + (j - b.toNat)) 0 ∈ (p.st.take (b + c).toNat).drop b.toNat := List.mem_of_getElem? e
        have := g4 _ hm
        rw [show b.toNat + (j - b.toNat) = j by omega] at this
        simpa using this
      exact take_loop hp d hT (.own (.sl 1 [])) (.own (.sl 1 [])) (.own (.sl 1 [])) [.dead, .dead, .dead, .dead]
  · unfold freeB; rw [g2]; simp
theorem c_TakeRunS {p : Pool} (hp : PoolC p) (b c d : Int) : CallD Try.prog F_spec_TakeRun [rPool p, iS b, iS c, iS d] fun r _ => r = oPool (takP p b c d) := by
  have hs := hp.st
  refine k_spec_TakeRun ?_
  unfold vc_spec_TakeRun
  have no : takB p b c = false → oPool p = oPool (takP p b c d) := fun h => by rw [takP_no d h]
  refine ⟨_, _, _, c_l4CopyC hp, _, c_l5Free hs b c, fun g => ⟨fun g2 => no ?_, fun g2 => ?_⟩, fun g => no ?_⟩
  · unfold takB
    simp only [nI, n_ints] at g2
    rw [decide_eq_false (p := p.own.length = p.st.length) (by simp at g2; omega)]
    simp
  · have ho : p.own.length = p.st.length := by simp only [nI, n_ints] at g2; simp at g2; omega
    exact take_loop hp d (by unfold takB; rw [g, decide_eq_true ho]; rfl) (.own (.sl 1 [])) (.own (.sl 1 [])) (.own (.sl 1 [])) [.dead, .dead, .dead, .dead]
  · unfold takB; rw [g]; rfl
abbrev tPIII (p : Pool) (n m k : Int) : SV := .tup [.agg [.own (.sl 1 (byts p.mem)), .own (.sl 1 (ints p.st)), .own (.sl 1 (ints p.own))], .cell (iC n), .cell (iC m), .cell (iC k)]
theorem c_DrawTakeRun {v : Value} {a : List Int} (ha : a.length ≤ M63) : ∃ p b n s, (PoolD p ∧ I64 b ∧ I64 n) ∧ CallD Try.prog F_spec_DrawTakeRun [codeS v a] fun r _ => r = tPIII p b n s := by
  obtain ⟨i0, h0, k0, c0⟩ := c_l1New (v := v) ha
  obtain ⟨c, p, i1, h1, hp, k1, c1⟩ := c_l4Any (v := v) ha k0 h0
  obtain ⟨x, i2, h2, gx, k2, cx⟩ := c_l1Below (v := v) ha k1 h1 2
  obtain ⟨b, i3, h3, k3, cb⟩ := c_l1Once (v := v) ha k2 h2 4
  have hst := hp.st
  have cf := c_FirstRunS (p := p) (by omega) (IntKind.i64.wrap (1 + x))
  have hF : I64 (firstS p.st (IntKind.i64.wrap (1 + x))) := by
    unfold firstS I64
    split
    · omega
    · rename_i hm
      cases e : frsG p.st (IntKind.i64.wrap (1 + x)).toNat p.st.length with
      | none => simp only; omega
      | some a =>
        have := ((frs_spec (by omega) _).1 a e).1.1
        simp only
        omega
  cases b
  · obtain ⟨z, i4, h4, -, k4, cz⟩ := c_l1Below (v := v) ha k3 h3 3
    refine ⟨p, _, IntKind.i64.wrap (1 + x), z, ⟨hp, hF, wrap_I64 _⟩, k_spec_DrawTakeRun ?_⟩
    unfold vc_spec_DrawTakeRun
    exact ⟨_, _, rfl, c0, _, _, _, _, _, _, _, _, _, _, _, rfl, c1, _, _, _, rfl, cx, _, cf, _, _, _, rfl, cb, fun g => (by cases g), fun _ => ⟨_, _, _, rfl, cz, rfl⟩⟩
  · obtain ⟨y, i4, h4, -, k4, cy⟩ := c_l1Below (v := v) ha k3 h3 14
    obtain ⟨z, i5, h5, -, k5, cz⟩ := c_l1Below (v := v) ha k4 h4 3
    refine ⟨p, IntKind.i64.wrap (y - 1), IntKind.i64.wrap (1 + x), z, ⟨hp, wrap_I64 _, wrap_I64 _⟩, k_spec_DrawTakeRun ?_⟩
    unfold vc_spec_DrawTakeRun
    exact ⟨_, _, rfl, c0, _, _, _, _, _, _, _, _, _, _, _, rfl, c1, _, _, _, rfl, cx, _, cf, _, _, _, rfl, cb, fun _ => ⟨_, _, _, rfl, cy, _, _, _, rfl, cz, rfl⟩, fun g => (by cases g)⟩
theorem c_DrawFirstRun {v : Value} {a : List Int} (ha : a.length ≤ M63) : ∃ p n, PoolD p ∧ CallD Try.prog F_spec_DrawFirstRun [codeS v a] fun r _ => r = tPI p n := by
  obtain ⟨i0, h0, k0, c0⟩ := c_l1New (v := v) ha
  obtain ⟨c, p, i1, h1, hp, k1, c1⟩ := c_l4Any (v := v) ha k0 h0
  obtain ⟨x, i2, h2, gx, k2, cx⟩ := c_l1Int (v := v) ha k1 h1 (l := [1, 2, 3, 0, -1, 9]) (by decide)
  refine ⟨p, x, hp, k_spec_DrawFirstRun ?_⟩
  unfold vc_spec_DrawFirstRun
  exact ⟨_, _, rfl, c0, _, _, _, _, _, _, _, _, _, _, _, rfl, c1, _, _, _, rfl, cx, rfl⟩
/-- What taking does to the counts. -/
theorem setR_count {l : List Int} {a n : Nat} (h : okR l n l.length a) (v x : Int) : ((setR l a n v).count x : Int) = (l.count x : Int) - (if 0 = x then (n : Int) else 0) + (if v = x then (n : Int) else 0) := by
  obtain ⟨h1, h2⟩ := h
  have e : l = setR l a n 0 := by
    unfold setR
    have e1 : (l.drop a).take n = List.replicate n 0 := by
      rw [List.eq_replicate_iff]
      refine ⟨by simp; omega, fun x hx => ?_⟩
      obtain ⟨j, hj, rfl⟩ := List.getElem_of_mem hx
      have hj' : j < n := by simp at hj; omega
      have := h2 (a + j) (by omega) (by omega)
      rw [getD_eq (by omega)] at this
      simpa using this
    rw [← e1, ← List.drop_drop, List.take_append_drop, List.take_append_drop]
  have c1 : ∀ w : Int, ((setR l a n w).count x : Int) = ((l.take a).count x : Int) + (if w = x then (n : Int) else 0) + ((l.drop (a + n)).count x : Int) := fun w => by
    unfold setR
    rw [List.count_append, List.count_append, List.count_replicate]
    by_cases hw : w = x
    · subst hw; simp; omega
    · simp [hw]
  have h3 := c1 v
  have h4 := c1 0
  rw [← e] at h4
  omega
theorem setR_get {l : List Int} {a n : Nat} {v : Int} (h : a + n ≤ l.length) (hn : 1 ≤ n) : (setR l a n v).getD a 0 = v := by
  rw [List.getD_eq_getElem?_getD]
  unfold setR
  rw [List.getElem?_append_right (by simp; omega), List.getElem?_append_left (by simp; omega), List.getElem?_replicate]
  rw [if_pos (by simp; omega)]
  rfl
theorem first_longest {st : List Int} {m : Int} (hm : 1 ≤ m) : 0 ≤ firstS st m ↔ m ≤ mxL ((rnR st st.length).map (·.2)) := by
  unfold firstS mxL
  rw [if_neg (by omega), mx_ge]
  have hf := first_eq (st := st) (m := m.toNat) (by omega) st.length
  rw [show ((m.toNat : Nat) : Int) = m by omega] at hf
  constructor
  · intro h
    cases e : frsG st m.toNat st.length with
    | none => rw [e] at h; simp only at h; omega
    | some a =>
      rw [e] at hf
      cases e2 : (rnR st st.length).find? fun p => decide (m ≤ p.2) with
      | none => rw [e2] at hf; cases hf
      | some x =>
        have h1 := List.find?_some e2
        exact .inr ⟨x.2, List.mem_map.2 ⟨x, List.mem_of_find?_eq_some e2, rfl⟩, by simpa using h1⟩
  · rintro (h | ⟨x, hx, hm2⟩)
    · omega
    · obtain ⟨y, hy, rfl⟩ := List.mem_map.1 hx
      cases e : frsG st m.toNat st.length with
      | some a => simp only; omega
      | none =>
        rw [e] at hf
        cases e2 : (rnR st st.length).find? fun p => decide (m ≤ p.2) with
        | some x => rw [e2] at hf; cases hf
        | none =>
          have h1 := List.find?_eq_none.1 e2 y hy
          simp only [decide_eq_true_eq] at h1
          omega
theorem sum_bd : ∀ {l : List Int}, (∀ x ∈ l, 0 ≤ x ∧ x ≤ 12) → 0 ≤ l.sum ∧ l.sum ≤ 12 * l.length
  | [], _ => by simp
  | x :: l, h => by
    have h1 := h x List.mem_cons_self
    have h2 := sum_bd fun y hy => h y (List.mem_cons_of_mem _ hy)
    rw [List.sum_cons, List.length_cons]
    omega
end Go.Proofs.Ythmpdfmdhfgaaaa
