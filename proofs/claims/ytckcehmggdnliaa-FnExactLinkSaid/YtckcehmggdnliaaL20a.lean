/- The data level, part 20a: segments of slots' moves alone, in any order. -/
import Derived.Test.YtckcehmggdnliaaL20
namespace Go.Proofs.Ytckcehmggdnliaa.DL
open Go Go.RowKit

def pv (op : Op) (u : Value) : Option Value :=
  match op with
  | .extract _ i => match u with
    | .tuple vs => vs[i]?
    | _ => none
  | _ => some u

section
variable {P : Program} {ops : Array Oper} {Q : Exit → Act → World → Prop} {K : Act → World → Prop}

theorem pure_exec {o : Oper} {t : Nat} (h : srcT o.op = some t) (a : Act) (w : World) :
    (execOp a.eval o).run P w = match pv o.op (valAt a.tmps t) with
      | some v => .ok (.value v) w
      | none => (execOp a.eval o).run P w := by
  have ev : ∀ x, a.eval (.tmp x) = valAt a.tmps x := fun x => rfl
  cases hop : o.op with
  | assign x =>
    rw [hop] at h
    cases x <;> simp only [srcT, Option.some.injEq] at h <;> first | (cases h; done) | (subst h; simp only [pv, execOp, hop]; rfl)
  | move x =>
    rw [hop] at h
    cases x <;> simp only [srcT, Option.some.injEq] at h <;> first | (cases h; done) | (subst h; simp only [pv, execOp, hop]; rfl)
  | extract x i =>
    rw [hop] at h
    cases x with
    | tmp x =>
      simp only [srcT, Option.some.injEq] at h
      subst h
      simp only [pv]
      cases hv : valAt a.tmps x with
      | tuple vs =>
        dsimp only
        cases hi : vs[i]? with
        | none => rfl
        | some v => simp only [execOp, hop, ev, hv, Instr.extract, hi]; rfl
      | _ => rfl
    | _ => cases h
  | _ => rw [hop] at h; cases h

/-- A pure operation, forwards. -/
theorem pure_fwd {o : Oper} {i t : Nat} {a : Act} {w : World} {v : Value} (hi : ops[i]? = some o) (hg : o.guard = none) (hs : srcT o.op = some t) (hv : pv o.op (valAt a.tmps t) = some v) (hK : K (a.put o.dst v) w) : wpOp P ops Q i K a w := by
  unfold wpOp
  rw [hi]
  have : Region.wanted o (yielded ops a.tmps) = true := by simp [Region.wanted, hg]
  simp only [this, if_true]
  left
  have e := pure_exec (P := P) hs a w
  rw [hv] at e
  unfold Oper.wp
  rw [e]
  exact hK
/-- A pure operation, backwards. -/
theorem pure_inv {o : Oper} {i t : Nat} {a : Act} {w : World} (hi : ops[i]? = some o) (hg : o.guard = none) (hs : srcT o.op = some t) (h : wpOp P ops (fun _ _ _ => False) i K a w) :
    ∃ v, pv o.op (valAt a.tmps t) = some v ∧ K (a.put o.dst v) w := by
  unfold wpOp at h
  rw [hi] at h
  have : Region.wanted o (yielded ops a.tmps) = true := by simp [Region.wanted, hg]
  simp only [this, if_true] at h
  rcases h with h | ⟨-, _, _, h⟩
  · have e := pure_exec (P := P) hs a w
    cases hv : pv o.op (valAt a.tmps t) with
    | some v =>
      rw [hv] at e
      unfold Oper.wp at h
      rw [e] at h
      exact ⟨v, rfl, h⟩
    | none =>
      exfalso
      cases hop : o.op with
      | extract x j =>
        rw [hop] at hs hv
        cases x with
        | tmp x =>
          simp only [srcT, Option.some.injEq] at hs
          subst hs
          have ev : a.eval (.tmp x) = valAt a.tmps x := rfl
          unfold Oper.wp at h
          cases hu : valAt a.tmps x with
          | tuple vs =>
            rw [hu] at hv
            simp only [pv] at hv
            simp only [execOp, hop, ev, hu, Instr.extract, hv] at h
            exact h
          | _ =>
            simp only [execOp, hop, ev, hu, Instr.extract] at h
            exact h
        | _ => cases hs
      | _ => rw [hop] at hv; cases hv
  · exact h.elim
end

/-- The text's own run of pure operations, by the values. -/
inductive PRun : List Oper → Array Value → List (List (Nat × Value)) → Array Value → Prop
  | nil {ts : Array Value} : PRun [] ts [] ts
  | cons {o : Oper} {os : List Oper} {d t : Nat} {v : Value} {ts ts' : Array Value} {us : List (List (Nat × Value))} : o.dst = some d → o.guard = none → srcT o.op = some t → pv o.op (valAt ts t) = some v →
      PRun os (ts.setIfInBounds d v) us ts' → PRun (o :: os) ts ([(d, v)] :: us) ts'
theorem PRun.length {os : List Oper} {ts ts' : Array Value} {us : List (List (Nat × Value))} (h : PRun os ts us ts') : us.length = os.length := by
  induction h with
  | nil => rfl
  | cons _ _ _ _ _ ih => simp [ih]

theorem valAt_set {ts : Array Value} {d : Nat} {v : Value} {q : Nat} : valAt (ts.setIfInBounds d v) q = if q = d ∧ d < ts.size then v else valAt ts q := by
  unfold valAt
  rw [Array.getD_eq_getD_getElem?, Array.getD_eq_getD_getElem?, Array.getElem?_setIfInBounds]
  by_cases e : d = q
  · subst e
    by_cases h : d < ts.size
    · simp [h]
    · simp [h]
  · have : ¬ q = d := fun e' => e e'.symm
    simp [e, this]
/-- The slots' values when the operations of L have run. -/
def mrgV (L : Nat → Bool) (ts : Array Value) (us : List (List (Nat × Value))) (c q : Nat) : Value := if q < ts.size then mrgT L q us c (valAt ts q) else undef
theorem valAt_out {ts : Array Value} {q : Nat} (h : ¬ q < ts.size) : valAt ts q = undef := by
  unfold valAt
  rw [Array.getD_eq_getD_getElem?, Array.getElem?_eq_none (by omega)]
  rfl
theorem mrgV_cons {L : Nat → Bool} {ts : Array Value} {us : List (List (Nat × Value))} {c q d : Nat} {v : Value} (h : L c = true) : mrgV L ts ([(d, v)] :: us) c q = mrgV L (ts.setIfInBounds d v) us (c + 1) q := by
  unfold mrgV
  rw [Array.size_setIfInBounds]
  split
  · rename_i hq
    simp only [mrgT, h, if_true, valAt_set, List.lookup_cons, List.lookup_nil]
    by_cases e : q = d
    · subst e; simp [hq]
    · have : (q == d) = false := by simpa using e
      simp [this, e]
  · rfl
theorem mrgV_none {L : Nat → Bool} {ts : Array Value} {us : List (List (Nat × Value))} {c q : Nat} (h : ∀ i, i < us.length → L (c + i) = false) : mrgV L ts us c q = valAt ts q := by
  unfold mrgV
  split
  · exact mrgT_none us c _ fun i u hi _ => h i (List.getElem?_eq_some_iff.1 hi).1
  · rename_i hq; exact (valAt_out hq).symm
theorem PRun.fin {os : List Oper} {ts ts' : Array Value} {us : List (List (Nat × Value))} (h : PRun os ts us ts') : ts'.size = ts.size ∧ ∀ c q, valAt ts' q = mrgV (fun j => decide (j < c + os.length)) ts us c q := by
  induction h with
  | nil => exact ⟨rfl, fun c q => (mrgV_none fun i hi => by simp at hi).symm⟩
  | cons h1 h2 h3 h4 h5 ih =>
    rename_i o os d t v ts ts' us
    refine ⟨by rw [ih.1, Array.size_setIfInBounds], fun c q => ?_⟩
    rw [mrgV_cons (by simp), ih.2 (c + 1) q, List.length_cons]
    congr 1
    funext j
    congr 1
    exact propext ⟨fun h => by omega, fun h => by omega⟩
theorem PRun.at {os : List Oper} {ts ts' : Array Value} {us : List (List (Nat × Value))} (h : PRun os ts us ts') : ∀ (c i : Nat) (o : Oper), os[i]? = some o →
    ∃ d v t, o.dst = some d ∧ o.guard = none ∧ srcT o.op = some t ∧ us[i]? = some [(d, v)] ∧ pv o.op (mrgV (fun j => decide (j < c + i)) ts us c t) = some v := by
  induction h with
  | nil => intro c i o ho; simp at ho
  | cons h1 h2 h3 h4 h5 ih =>
    rename_i o os d t v ts ts' us
    intro c i o' ho
    cases i with
    | zero =>
      simp only [List.getElem?_cons_zero, Option.some.injEq] at ho
      subst ho
      exact ⟨d, v, t, h1, h2, h3, rfl, by rw [mrgV_none fun i _ => by simp]; exact h4⟩
    | succ i =>
      obtain ⟨d', v', t', g1, g2, g3, g4, g5⟩ := ih (c + 1) i o' (by simpa using ho)
      refine ⟨d', v', t', g1, g2, g3, by simpa using g4, ?_⟩
      rw [mrgV_cons (by simp), show c + (i + 1) = c + 1 + i by omega]
      exact g5

theorem PRun.next {seg : List Oper} {ts ts' : Array Value} {us : List (List (Nat × Value))} (h : PRun seg ts us ts') {tab : List Nat} {c : Nat}
    (hord : ∀ (i : Nat) (o : Oper) (j : Nat) (o' : Oper) (q : Nat), seg[i]? = some o → seg[j]? = some o' → o.dst = some q → o'.dst = some q → j < i → (tab.getD (c + i) 0).testBit (c + j) = true)
    {L : Nat → Bool} (hcl : ∀ j, L j = true → ∀ b, (tab.getD j 0).testBit b = true → L b = true) {i d : Nat} {v : Value} {o : Oper} (hi : us[i]? = some [(d, v)]) (ho : seg[i]? = some o) (hd : o.dst = some d)
    (hL : L (c + i) = false) {m : Array Value} (hs : m.size = ts.size) (hm : ∀ q, valAt m q = mrgV L ts us c q) (q : Nat) : valAt (m.setIfInBounds d v) q = mrgV (upd L (c + i)) ts us c q := by
  have at' : ∀ (i' : Nat) (u' : List (Nat × Value)), us[i']? = some u' → ∃ (o' : Oper) (d' : Nat) (v' : Value), seg[i']? = some o' ∧ o'.dst = some d' ∧ u' = [(d', v')] := fun i' u' hu => by
    have hl := (List.getElem?_eq_some_iff.1 hu).1
    rw [h.length] at hl
    obtain ⟨d', v', t', g1, g2, g3, g4, g5⟩ := h.at c i' _ (List.getElem?_eq_getElem hl)
    rw [hu] at g4
    exact ⟨_, d', v', List.getElem?_eq_getElem hl, g1, by simpa using g4⟩
  have look : ∀ (d' : Nat) (v' : Value), (List.lookup q [(d', v')]).isSome = true → q = d' := fun d' v' hl => by
    simp only [List.lookup_cons, List.lookup_nil] at hl
    split at hl
    · rename_i e; simpa using e
    · cases hl
  rw [valAt_set, hm, hs]
  unfold mrgV
  by_cases e : q = d ∧ d < ts.size
  · obtain ⟨rfl, hq⟩ := e
    rw [if_pos ⟨rfl, hq⟩, if_pos hq]
    refine (mrgT_some us c i _ _ hi (by simp) (by simp [upd]) fun i' u' hu' hs' hlt => ?_).symm
    obtain ⟨o', d', v', k1, k2, rfl⟩ := at' i' u' hu'
    have := look d' v' hs'
    subst this
    have b := hord i' o' i o q k1 ho k2 hd hlt
    simp only [upd]
    rw [if_neg (by omega)]
    cases hL' : L (c + i') with
    | false => rfl
    | true => have := hcl _ hL' _ b; rw [hL] at this; cases this
  · rw [if_neg e]
    split
    · rename_i hq
      refine mrgT_congr us c _ fun i' u' hu' hs' => ?_
      obtain ⟨o', d', v', k1, k2, rfl⟩ := at' i' u' hu'
      have e2 := look d' v' hs'
      have : i' ≠ i := fun e3 => by
        subst e3
        rw [ho] at k1
        cases k1
        rw [hd] at k2
        cases k2
        exact e ⟨e2, by omega⟩
      simp only [upd]
      rw [if_neg (by omega)]
    · rfl

section
variable {P : Program} {C : Cfg} {w0 : World} {F0 : List Nat} {ts0 : Array Value} {ops : Array Oper}
theorem pure_run (hT : TbOk P C.tb) {K' : Sl → Prop} : ∀ (os : List Oper) (k : Nat) (sl : Sl) (a : Act) (w : World), (∀ j, j < os.length → ops[k + j]? = os[j]?) → os.all pureO = true → opsK P C ops.toList os sl K' → St C w0 F0 ts0 sl a w →
    ∃ us ts' sl', PRun os a.tmps us ts' ∧ K' sl' ∧ St C w0 F0 ts0 sl' ⟨ts', a.defers⟩ w
  | [], _, sl, a, _, _, _, hk, h => ⟨[], a.tmps, sl, .nil, hk, h⟩
  | o :: os, k, sl, a, w, he, hp, hk, h => by
    simp only [List.all_cons, Bool.and_eq_true, pureO, Option.isNone_iff_eq_none] at hp
    obtain ⟨⟨⟨hg, hd⟩, hs⟩, hp⟩ := hp
    obtain ⟨d, hd⟩ := Option.isSome_iff_exists.1 hd
    obtain ⟨t, hs⟩ := Option.isSome_iff_exists.1 hs
    have hi : ops[k]? = some o := by simpa using he 0 (by simp)
    have := stepK_wp (Q := fun _ _ _ => False) (K := fun a' w' => ∃ sl', opsK P C ops.toList os sl' K' ∧ St C w0 F0 ts0 sl' a' w') hT hi hk h fun sl' hk' a' w' h' => ⟨sl', hk', h'⟩
    obtain ⟨v, hv, sl', hk', h'⟩ := pure_inv hi hg hs this
    rw [hd] at h'
    obtain ⟨us, ts', sl2, g1, g2, g3⟩ := pure_run hT os (k + 1) sl' _ w (fun j hj => by
      have := he (j + 1) (by simpa using hj)
      rw [show k + 1 + j = k + (j + 1) by omega]; simpa using this) hp hk' h'
    exact ⟨_, ts', sl2, .cons hd hg hs hv g1, g2, g3⟩
end
theorem pureLook_spec {tab : List Nat} {seg : List Oper} {c0 : Nat} : ∀ (os : List Oper) (c i : Nat) (o : Oper) (t : Nat), pureLook tab seg c0 os c = true → os[i]? = some o → srcT o.op = some t → lookOk tab [] (c + i) t seg c0 = true
  | [], _, i, o, _, _, h, _ => by simp at h
  | o0 :: os, c, 0, o, t, hl, h, hs => by
    simp only [List.getElem?_cons_zero, Option.some.injEq] at h
    subst h
    simp only [pureLook, hs, Bool.and_eq_true] at hl
    exact hl.1
  | o0 :: os, c, i + 1, o, t, hl, h, hs => by
    simp only [pureLook, Bool.and_eq_true] at hl
    rw [show c + (i + 1) = c + 1 + i by omega]
    exact pureLook_spec os (c + 1) i o t hl.2 (by simpa using h) hs
end Go.Proofs.Ytckcehmggdnliaa.DL
