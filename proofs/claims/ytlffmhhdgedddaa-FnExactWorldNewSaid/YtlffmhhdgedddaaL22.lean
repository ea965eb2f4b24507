/- The library: parts L20a to L22. -/
import Derived.Test.YtlffmhhdgedddaaL20
/- The data level, part 20a: segments of operations whose outcome hangs on the slots they look at, and on the heap; those on the heap in the text's order, the others in any order. -/
namespace Go.Proofs.Ytlffmhhdgedddaa.DL
open Go Go.RowKit

/-- What an operation yields, and the world after it. -/
def doO (P : Program) (ρ : Operand → Value) (o : Oper) (w : World) : Option (Value × World) :=
  match (execOp ρ o).run P w with
  | .ok (.value v) w' => some (v, w')
  | .ok .skip w' => some (undef, w')
  | _ => none
def evT (ts : Array Value) (x : Operand) : Value := (Act.mk ts []).eval x
theorem evT_eq (a : Act) : a.eval = evT a.tmps := by
  funext x
  cases x <;> rfl
def putV (ts : Array Value) (dst : Option Nat) (v : Value) : Array Value :=
  match dst with
  | some d => ts.setIfInBounds d v
  | none => ts
theorem put_eq (a : Act) (dst : Option Nat) (v : Value) : a.put dst v = ⟨putV a.tmps dst v, a.defers⟩ := by
  cases a
  cases dst <;> rfl
theorem putV_size (ts : Array Value) (dst : Option Nat) (v : Value) : (putV ts dst v).size = ts.size := by
  cases dst with
  | none => rfl
  | some d => exact Array.size_setIfInBounds ..
def upv (dst : Option Nat) (v : Value) : List (Nat × Value) :=
  match dst with
  | some d => [(d, v)]
  | none => []
def upw (o : Oper) (w : World) : List (Nat × World) := if heapO o.op then [(0, w)] else []

section
variable {P : Program} {ops : Array Oper} {Q : Exit → Act → World → Prop} {K : Act → World → Prop}

theorem doO_congr {o : Oper} (hd : detO o = true) {ts ts' : Array Value} (h : ∀ t ∈ tmpsOf o, valAt ts t = valAt ts' t) (w : World) : doO P (evT ts) o w = doO P (evT ts') o w := by
  have hx : ∀ x ∈ o.op.operands.toList, evT ts x = evT ts' x := fun x hx => by
    cases x with
    | tmp t => exact h t (List.mem_filterMap.2 ⟨_, hx, rfl⟩)
    | _ => rfl
  have e : execOp (evT ts) o = execOp (evT ts') o := by
    unfold detO at hd
    cases hop : o.op with
    | assign x => simp only [execOp, hop, hx x (by simp [hop, Op.operands])]
    | move x => simp only [execOp, hop, hx x (by simp [hop, Op.operands])]
    | extract x i => simp only [execOp, hop, hx x (by simp [hop, Op.operands])]
    | alloc t => simp only [execOp, hop]
    | box t x => simp only [execOp, hop, hx x (by simp [hop, Op.operands])]
    | store t x y => simp only [execOp, hop, hx x (by simp [hop, Op.operands]), hx y (by simp [hop, Op.operands])]
    | _ => rw [hop] at hd; simp [srcT, heapO] at hd
  unfold doO
  rw [e]
theorem det_shape {o : Oper} (hd : detO o = true) {ρ : Operand → Value} {w w' : World} {n : Next} (h : (execOp ρ o).run P w = .ok n w') : (∃ v, n = .value v) ∨ n = .skip := by
  have hv : ∀ s : Sem Value, (do pure (.value (← s)) : Sem Next).run P w = .ok n w' → (∃ v, n = .value v) ∨ n = .skip := fun s hs => by
    rw [Sem.run_bind] at hs
    cases hr : s.run P w with
    | ok v w1 => rw [hr] at hs; cases hs; exact .inl ⟨_, rfl⟩
    | halt e w1 => rw [hr] at hs; cases hs
  have hu : ∀ s : Sem Unit, (do s; pure .skip : Sem Next).run P w = .ok n w' → (∃ v, n = .value v) ∨ n = .skip := fun s hs => by
    rw [Sem.run_bind] at hs
    cases hr : s.run P w with
    | ok v w1 => rw [hr] at hs; cases hs; exact .inr rfl
    | halt e w1 => rw [hr] at hs; cases hs
  unfold detO at hd
  cases hop : o.op with
  | assign x => simp only [execOp, hop] at h; cases h; exact .inl ⟨_, rfl⟩
  | move x => simp only [execOp, hop] at h; cases h; exact .inl ⟨_, rfl⟩
  | extract x i => simp only [execOp, hop] at h; exact hv _ h
  | alloc t => simp only [execOp, hop] at h; exact hv _ h
  | box t x => simp only [execOp, hop] at h; exact hv _ h
  | store t x y => simp only [execOp, hop] at h; exact hu _ h
  | _ => rw [hop] at hd; simp [srcT, heapO] at hd
theorem doO_pure {o : Oper} (hd : detO o = true) (hh : heapO o.op = false) {ρ : Operand → Value} {w w' : World} {v : Value} (h : doO P ρ o w = some (v, w')) : w' = w ∧ ∀ w2, doO P ρ o w2 = some (v, w2) := by
  unfold detO at hd
  cases hop : o.op with
  | assign x => simp only [doO, execOp, hop] at h ⊢; cases h; exact ⟨rfl, fun _ => rfl⟩
  | move x => simp only [doO, execOp, hop] at h ⊢; cases h; exact ⟨rfl, fun _ => rfl⟩
  | extract x i =>
    simp only [doO, execOp, hop, Instr.extract] at h ⊢
    cases hv : ρ x with
    | tuple vs =>
      rw [hv] at h
      dsimp only at h ⊢
      cases hi : vs[i]? with
      | some u => rw [hi] at h; cases h; exact ⟨rfl, fun _ => rfl⟩
      | none => rw [hi] at h; cases h
    | _ => rw [hv] at h; cases h
  | alloc t => rw [hop] at hh; cases hh
  | box t x => rw [hop] at hd hh; cases x <;> simp_all [srcT, heapO]
  | store t x y => rw [hop] at hd hh; simp_all [srcT]
  | _ => rw [hop] at hd; simp [srcT, heapO] at hd
theorem doO_fwd {o : Oper} {i : Nat} {a : Act} {w w' : World} {v : Value} (hi : ops[i]? = some o) (hd : detO o = true) (h : doO P a.eval o w = some (v, w')) (hK : K (a.put o.dst v) w') : wpOp P ops Q i K a w := by
  have hg : o.guard = none := by
    unfold detO at hd
    rw [Bool.and_eq_true, Option.isNone_iff_eq_none] at hd
    exact hd.1
  unfold wpOp
  rw [hi]
  have : Region.wanted o (yielded ops a.tmps) = true := by simp [Region.wanted, hg]
  simp only [this, if_true]
  left
  unfold doO at h
  unfold Oper.wp
  split at h
  · rename_i e; cases h; rw [e]; exact hK
  · rename_i e; cases h; rw [e]; exact hK
  · cases h
theorem doO_inv {o : Oper} {i : Nat} {a : Act} {w : World} (hi : ops[i]? = some o) (hd : detO o = true) (h : wpOp P ops (fun _ _ _ => False) i K a w) : ∃ v w', doO P a.eval o w = some (v, w') ∧ K (a.put o.dst v) w' := by
  have hg : o.guard = none := by
    unfold detO at hd
    rw [Bool.and_eq_true, Option.isNone_iff_eq_none] at hd
    exact hd.1
  unfold wpOp at h
  rw [hi] at h
  have : Region.wanted o (yielded ops a.tmps) = true := by simp [Region.wanted, hg]
  simp only [this, if_true] at h
  rcases h with h | ⟨-, _, _, h⟩
  · unfold Oper.wp at h
    unfold doO
    cases hr : (execOp a.eval o).run P w with
    | ok n w' =>
      rw [hr] at h
      rcases det_shape hd hr with ⟨v, rfl⟩ | rfl
      · exact ⟨v, w', rfl, h⟩
      · exact ⟨undef, w', rfl, h⟩
    | halt e w' =>
      rw [hr] at h
      cases e <;> exact h.elim
  · exact h.elim
end

/-- The text's own run of such operations, by the values and the worlds. -/
inductive DRun (P : Program) : List Oper → Array Value → World → List (List (Nat × Value)) → List (List (Nat × World)) → Array Value → World → Prop
  | nil {ts : Array Value} {w : World} : DRun P [] ts w [] [] ts w
  | cons {o : Oper} {os : List Oper} {v : Value} {ts ts' : Array Value} {w w1 w' : World} {us : List (List (Nat × Value))} {ws : List (List (Nat × World))} : detO o = true → doO P (evT ts) o w = some (v, w1) →
      DRun P os (putV ts o.dst v) w1 us ws ts' w' → DRun P (o :: os) ts w (upv o.dst v :: us) (upw o w1 :: ws) ts' w'
section
variable {P : Program}
theorem DRun.length {os : List Oper} {ts ts' : Array Value} {w w' : World} {us : List (List (Nat × Value))} {ws : List (List (Nat × World))} (h : DRun P os ts w us ws ts' w') : us.length = os.length ∧ ws.length = os.length := by
  induction h with
  | nil => exact ⟨rfl, rfl⟩
  | cons _ _ _ ih => simp [ih]

theorem valAt_put {ts : Array Value} {dst : Option Nat} {v : Value} {q : Nat} : valAt (putV ts dst v) q = if dst = some q ∧ q < ts.size then v else valAt ts q := by
  cases dst with
  | none => simp [putV]
  | some d =>
    unfold putV valAt
    dsimp only
    rw [Array.getD_eq_getD_getElem?, Array.getD_eq_getD_getElem?, Array.getElem?_setIfInBounds]
    by_cases e : d = q
    · subst e
      by_cases h : d < ts.size
      · simp [h]
      · simp [h]
    · simp [e]
/-- The slots' values, and the world, when the operations of L have run. -/
def mrgV (L : Nat → Bool) (ts : Array Value) (us : List (List (Nat × Value))) (c q : Nat) : Value := if q < ts.size then mrgT L q us c (valAt ts q) else undef
def mrgW (L : Nat → Bool) (w : World) (ws : List (List (Nat × World))) (c : Nat) : World := mrgT L 0 ws c w
theorem valAt_out {ts : Array Value} {q : Nat} (h : ¬ q < ts.size) : valAt ts q = undef := by
  unfold valAt
  rw [Array.getD_eq_getD_getElem?, Array.getElem?_eq_none (by omega)]
  rfl
theorem mrgV_cons {L : Nat → Bool} {ts : Array Value} {us : List (List (Nat × Value))} {c q : Nat} {dst : Option Nat} {v : Value} (h : L c = true) : mrgV L ts (upv dst v :: us) c q = mrgV L (putV ts dst v) us (c + 1) q := by
  unfold mrgV
  rw [putV_size]
  split
  · rename_i hq
    simp only [mrgT, h, if_true, valAt_put, hq, and_true]
    cases dst with
    | none => simp [upv]
    | some d =>
      simp only [upv, List.lookup_cons, List.lookup_nil, Option.some.injEq]
      by_cases e : q = d
      · subst e; simp
      · have : (q == d) = false := by simpa using e
        have e' : ¬ d = q := fun h => e h.symm
        simp [this, e']
  · rfl
theorem mrgV_none {L : Nat → Bool} {ts : Array Value} {us : List (List (Nat × Value))} {c q : Nat} (h : ∀ i, i < us.length → L (c + i) = false) : mrgV L ts us c q = valAt ts q := by
  unfold mrgV
  split
  · exact mrgT_none us c _ fun i u hi _ => h i (List.getElem?_eq_some_iff.1 hi).1
  · rename_i hq; exact (valAt_out hq).symm
theorem mrgW_none {L : Nat → Bool} {w : World} {ws : List (List (Nat × World))} {c : Nat} (h : ∀ i, i < ws.length → L (c + i) = false) : mrgW L w ws c = w :=
  mrgT_none ws c _ fun i _ hi _ => h i (List.getElem?_eq_some_iff.1 hi).1
theorem mrgW_cons {L : Nat → Bool} {o : Oper} {ρ : Operand → Value} {v : Value} {w w1 : World} {ws : List (List (Nat × World))} {c : Nat} (h : L c = true) (hd : detO o = true) (ho : doO P ρ o w = some (v, w1)) : mrgW L w (upw o w1 :: ws) c = mrgW L w1 ws (c + 1) := by
  unfold mrgW upw
  simp only [mrgT, h, if_true]
  cases hh : heapO o.op with
  | true => simp
  | false => rw [(doO_pure hd hh ho).1]; simp
theorem DRun.fin {os : List Oper} {ts ts' : Array Value} {w w' : World} {us : List (List (Nat × Value))} {ws : List (List (Nat × World))} (h : DRun P os ts w us ws ts' w') :
    ts'.size = ts.size ∧ (∀ c q, valAt ts' q = mrgV (fun j => decide (j < c + os.length)) ts us c q) ∧ ∀ c, w' = mrgW (fun j => decide (j < c + os.length)) w ws c := by
  induction h with
  | nil => exact ⟨rfl, fun c q => (mrgV_none fun i hi => by simp at hi).symm, fun c => (mrgW_none fun i hi => by simp at hi).symm⟩
  | cons h1 h2 h3 ih =>
    rename_i o os v ts ts' w w1 w' us ws
    have e : ∀ c, (fun j => decide (j < c + (o :: os).length)) = fun j => decide (j < c + 1 + os.length) := fun c => by
      funext j
      congr 1
      rw [List.length_cons]
      exact propext ⟨fun h => by omega, fun h => by omega⟩
    refine ⟨by rw [ih.1, putV_size], fun c q => ?_, fun c => ?_⟩
    · rw [mrgV_cons (by simp), ih.2.1 (c + 1) q, e]
    · rw [mrgW_cons (by simp) h1 h2, e]
      exact ih.2.2 (c + 1)
theorem DRun.at {os : List Oper} {ts ts' : Array Value} {w w' : World} {us : List (List (Nat × Value))} {ws : List (List (Nat × World))} (h : DRun P os ts w us ws ts' w') : ∀ (c i : Nat) (o : Oper), os[i]? = some o →
    ∃ v w1 m, detO o = true ∧ us[i]? = some (upv o.dst v) ∧ ws[i]? = some (upw o w1) ∧ doO P (evT m) o (mrgW (fun j => decide (j < c + i)) w ws c) = some (v, w1) ∧ ∀ q, valAt m q = mrgV (fun j => decide (j < c + i)) ts us c q := by
  induction h with
  | nil => intro c i o ho; simp at ho
  | cons h1 h2 h3 ih =>
    rename_i o os v ts ts' w w1 w' us ws
    intro c i o' ho
    cases i with
    | zero =>
      simp only [List.getElem?_cons_zero, Option.some.injEq] at ho
      subst ho
      exact ⟨v, w1, ts, h1, rfl, rfl, by rw [mrgW_none fun i _ => by simp]; exact h2, fun q => (mrgV_none fun i _ => by simp).symm⟩
    | succ i =>
      obtain ⟨v', w2, m, g1, g2, g3, g4, g5⟩ := ih (c + 1) i o' (by simpa using ho)
      refine ⟨v', w2, m, g1, by simpa using g2, by simpa using g3, ?_, fun q => ?_⟩
      · rw [mrgW_cons (by simp) h1 h2, show c + (i + 1) = c + 1 + i by omega]
        exact g4
      · rw [mrgV_cons (by simp), show c + (i + 1) = c + 1 + i by omega]
        exact g5 q

theorem upv_some {dst : Option Nat} {v : Value} {q : Nat} (h : ((upv dst v).lookup q).isSome = true) : dst = some q := by
  cases dst with
  | none => simp [upv] at h
  | some d =>
    simp only [upv, List.lookup_cons, List.lookup_nil] at h
    split at h
    · rename_i e
      have : q = d := by simpa using e
      rw [this]
    · cases h
theorem upw_some {o : Oper} {w : World} (h : ((upw o w).lookup 0).isSome = true) : heapO o.op = true := by
  unfold upw at h
  cases e : heapO o.op with
  | true => rfl
  | false => rw [e] at h; simp at h

theorem DRun.next {seg : List Oper} {ts ts' : Array Value} {w w' : World} {us : List (List (Nat × Value))} {ws : List (List (Nat × World))} (h : DRun P seg ts w us ws ts' w') {tab : List Nat} {c : Nat}
    (hord : ∀ (i : Nat) (o : Oper) (j : Nat) (o' : Oper) (q : Nat), seg[i]? = some o → seg[j]? = some o' → o.dst = some q → o'.dst = some q → j < i → (tab.getD (c + i) 0).testBit (c + j) = true)
    {L : Nat → Bool} (hcl : ∀ j, L j = true → ∀ b, (tab.getD j 0).testBit b = true → L b = true) {i : Nat} {v : Value} {o : Oper} (hi : us[i]? = some (upv o.dst v)) (ho : seg[i]? = some o)
    (hL : L (c + i) = false) {m : Array Value} (hs : m.size = ts.size) (hm : ∀ q, valAt m q = mrgV L ts us c q) (q : Nat) : valAt (putV m o.dst v) q = mrgV (upd L (c + i)) ts us c q := by
  have at' : ∀ (i' : Nat) (u' : List (Nat × Value)), us[i']? = some u' → ∃ (o' : Oper) (v' : Value), seg[i']? = some o' ∧ u' = upv o'.dst v' := fun i' u' hu => by
    have hl := (List.getElem?_eq_some_iff.1 hu).1
    rw [h.length.1] at hl
    obtain ⟨v', w1, m, g1, g2, -, -, -⟩ := h.at c i' _ (List.getElem?_eq_getElem hl)
    rw [hu] at g2
    exact ⟨_, v', List.getElem?_eq_getElem hl, by simpa using g2⟩
  rw [valAt_put, hm, hs]
  unfold mrgV
  by_cases e : o.dst = some q ∧ q < ts.size
  · obtain ⟨hd, hq⟩ := e
    rw [if_pos ⟨hd, hq⟩, if_pos hq]
    refine (mrgT_some us c i _ _ hi (by rw [hd]; simp [upv]) (by simp [upd]) fun i' u' hu' hs' hlt => ?_).symm
    obtain ⟨o', v', k1, rfl⟩ := at' i' u' hu'
    have b := hord i' o' i o q k1 ho (upv_some hs') hd hlt
    simp only [upd]
    rw [if_neg (by omega)]
    cases hL' : L (c + i') with
    | false => rfl
    | true => have := hcl _ hL' _ b; rw [hL] at this; cases this
  · rw [if_neg e]
    split
    · rename_i hq
      refine mrgT_congr us c _ fun i' u' hu' hs' => ?_
      obtain ⟨o', v', k1, rfl⟩ := at' i' u' hu'
      have e2 := upv_some hs'
      have : i' ≠ i := fun e3 => by
        subst e3
        rw [ho] at k1
        cases k1
        exact e ⟨e2, hq⟩
      simp only [upd]
      rw [if_neg (by omega)]
    · rfl
/-- What is done on the heap comes in the text's order. -/
theorem DRun.world {seg : List Oper} {ts ts' : Array Value} {w w' : World} {us : List (List (Nat × Value))} {ws : List (List (Nat × World))} (h : DRun P seg ts w us ws ts' w') {tab : List Nat} {c : Nat}
    {L : Nat → Bool} (hcl : ∀ j, L j = true → ∀ b, (tab.getD j 0).testBit b = true → L b = true) {i : Nat} {o : Oper} {w1 : World} (hi : ws[i]? = some (upw o w1))
    (hL : L (c + i) = false) (hbits : ∀ b, (tab.getD (c + i) 0).testBit b = true → L b = true) :
    (heapO o.op = true → (∀ (i : Nat) (o : Oper) (j : Nat) (o' : Oper), seg[i]? = some o → seg[j]? = some o' → heapO o.op = true → heapO o'.op = true → j < i → (tab.getD (c + i) 0).testBit (c + j) = true) → seg[i]? = some o →
      mrgW L w ws c = mrgW (fun j => decide (j < c + i)) w ws c ∧ mrgW (upd L (c + i)) w ws c = w1) ∧ (heapO o.op = false → mrgW (upd L (c + i)) w ws c = mrgW L w ws c) := by
  have at' : ∀ (i' : Nat) (u' : List (Nat × World)), ws[i']? = some u' → (u'.lookup 0).isSome = true → ∃ (o' : Oper), seg[i']? = some o' ∧ heapO o'.op = true := fun i' u' hu hs' => by
    have hl := (List.getElem?_eq_some_iff.1 hu).1
    rw [h.length.2] at hl
    obtain ⟨v', w2, m, g1, -, g3, -, -⟩ := h.at c i' _ (List.getElem?_eq_getElem hl)
    rw [hu] at g3
    have g3 : u' = upw seg[i'] w2 := by simpa using g3
    subst g3
    exact ⟨_, List.getElem?_eq_getElem hl, upw_some hs'⟩
  refine ⟨fun hh hw ho => ⟨mrgT_congr ws c _ fun i' u' hu' hs' => ?_, mrgT_some ws c i _ _ hi (by simp [upw, hh]) (by simp [upd]) fun i' u' hu' hs' hlt => ?_⟩, fun hh => mrgT_congr ws c _ fun i' u' hu' hs' => ?_⟩
  · obtain ⟨o', k1, k2⟩ := at' i' u' hu' hs'
    rcases Nat.lt_trichotomy i' i with hlt | rfl | hlt
    · rw [hbits _ (hw i o i' o' ho k1 hh k2 hlt)]
      simp [hlt]
    · rw [hL]; simp
    · have b := hw i' o' i o k1 ho k2 hh hlt
      cases hL' : L (c + i') with
      | false => simp; omega
      | true => have := hcl _ hL' _ b; rw [hL] at this; cases this
  · obtain ⟨o', k1, k2⟩ := at' i' u' hu' hs'
    have b := hw i' o' i o k1 ho k2 hh hlt
    simp only [upd]
    rw [if_neg (by omega)]
    cases hL' : L (c + i') with
    | false => rfl
    | true => have := hcl _ hL' _ b; rw [hL] at this; cases this
  · have : i' ≠ i := fun e => by
      subst e
      rw [hi] at hu'
      have hu' : upw o w1 = u' := by simpa using hu'
      rw [← hu', upw, hh] at hs'
      simp at hs'
    simp only [upd]
    rw [if_neg (by omega)]
end

section
variable {P : Program} {C : Cfg} {w0 : World} {F0 : List Nat} {ts0 : Array Value} {ops : Array Oper}
theorem det_run (hT : TbOk P C.tb) {K' : Sl → Prop} : ∀ (os : List Oper) (k : Nat) (sl : Sl) (a : Act) (w : World), (∀ j, j < os.length → ops[k + j]? = os[j]?) → os.all detO = true → opsK P C ops.toList os sl K' → St C w0 F0 ts0 sl a w →
    ∃ us ws ts' w' sl', DRun P os a.tmps w us ws ts' w' ∧ K' sl' ∧ St C w0 F0 ts0 sl' ⟨ts', a.defers⟩ w'
  | [], _, sl, a, w, _, _, hk, h => ⟨[], [], a.tmps, w, sl, .nil, hk, h⟩
  | o :: os, k, sl, a, w, he, hp, hk, h => by
    simp only [List.all_cons, Bool.and_eq_true] at hp
    obtain ⟨hd, hp⟩ := hp
    have hi : ops[k]? = some o := by simpa using he 0 (by simp)
    have := stepK_wp (Q := fun _ _ _ => False) (K := fun a' w' => ∃ sl', opsK P C ops.toList os sl' K' ∧ St C w0 F0 ts0 sl' a' w') hT hi hk h fun sl' hk' a' w' h' => ⟨sl', hk', h'⟩
    obtain ⟨v, w1, hv, sl', hk', h'⟩ := doO_inv hi hd this
    rw [put_eq] at h'
    rw [evT_eq] at hv
    obtain ⟨us, ws, ts', w', sl2, g1, g2, g3⟩ := det_run hT os (k + 1) sl' _ w1 (fun j hj => by
      have := he (j + 1) (by simpa using hj)
      rw [show k + 1 + j = k + (j + 1) by omega]; simpa using this) hp hk' h'
    exact ⟨_, _, ts', w', sl2, .cons hd hv g1, g2, g3⟩
end
theorem heapB_spec {tab : List Nat} {k : Nat} : ∀ (os : List Oper) (c j : Nat) (o : Oper), heapB tab k os c = true → os[j]? = some o → heapO o.op = true → c + j < k → (tab.getD k 0).testBit (c + j) = true
  | [], _, j, o, _, h, _, _ => by simp at h
  | o0 :: os, c, 0, o, hb, h, hh, hk => by
    simp only [List.getElem?_cons_zero, Option.some.injEq] at h
    subst h
    simp only [heapB, hh, Bool.and_eq_true, Bool.or_eq_true, Bool.not_true, Bool.false_eq_true, false_or] at hb
    rcases hb.1 with h | h
    · have := Nat.le_of_ble_eq_true h; omega
    · exact h
  | o0 :: os, c, j + 1, o, hb, h, hh, hk => by
    simp only [heapB, Bool.and_eq_true] at hb
    rw [show c + (j + 1) = c + 1 + j by omega]
    exact heapB_spec os (c + 1) j o hb.2 (by simpa using h) hh (by omega)
theorem detAll_spec {tab : List Nat} {seg : List Oper} {c0 : Nat} : ∀ (os : List Oper) (c i : Nat) (o : Oper), detAll tab seg c0 os c = true → os[i]? = some o →
    (∀ t ∈ tmpsOf o, lookOk tab [] (c + i) t seg c0 = true) ∧ (heapO o.op = true → heapB tab (c + i) seg c0 = true)
  | [], _, i, o, _, h => by simp at h
  | o0 :: os, c, 0, o, hl, h => by
    simp only [List.getElem?_cons_zero, Option.some.injEq] at h
    subst h
    simp only [detAll, Bool.and_eq_true, List.all_eq_true, Bool.or_eq_true, Bool.not_eq_true'] at hl
    refine ⟨hl.1.1, fun hh => ?_⟩
    rcases hl.1.2 with h | h
    · rw [hh] at h; cases h
    · exact h
  | o0 :: os, c, i + 1, o, hl, h => by
    simp only [detAll, Bool.and_eq_true] at hl
    rw [show c + (i + 1) = c + 1 + i by omega]
    exact detAll_spec os (c + 1) i o hl.2 (by simpa using h)
end Go.Proofs.Ytlffmhhdgedddaa.DL

/- The data level, part 21: regions whose operations may run in more than one order, as the walk wants them. -/
namespace Go.Proofs.Ytlffmhhdgedddaa.DL
open Go Go.RowKit

/-- What an operation of a segment is known to do in the text's own state m. -/
def StOk (P : Program) (C : Cfg) (ops : List Oper) (tab : List Nat) (wr : List (Nat × Nat × List Nat)) (seg : List Oper) (c k : Nat) (o : Oper) (u : Ups) (m : Sl) : Prop :=
  (∃ d y, wr.lookup k = none ∧ o.dst = some d ∧ u = [(d, killSV d y)] ∧ (∀ t ∈ C.pin, o.dst ≠ some t) ∧ (still m o.op && rdO C o) = true ∧ footOk C.tb ops tab wr seg c o k m = true ∧ StepR P C ops o m y m) ∨
  (∃ s tv sl1 cs x, wr.lookup k = some (s, tv) ∧ isX C o = false ∧ o.dst = none ∧ o.guard = none ∧ u = (s, gt sl1 s) :: tv.map (fun t => (t, SV.dead)) ∧ storeT C.tb m o.type o.op = some (s, tv) ∧ s ∉ tv ∧
    (∀ t ∈ foot ops o m ++ (s :: tv), lookOk tab wr k t seg c = true) ∧ (∀ y ∈ m, kBk tv s y = true ∧ ∀ t ∈ tv, t ∉ y.roots) ∧ opV C.tb m o.type o.op = some (cs, x, sl1) ∧ (∀ p ∈ cs, p) ∧
    ownForm (gt m s) = ownForm (gt sl1 s)) ∨
  (∃ s u' d ty cs x, wr.lookup k = some (s, [s]) ∧ AppO C o s u' d ty ∧ (∀ t ∈ C.pin, o.dst ≠ some t) ∧ u = [(d, x), (s, SV.dead)] ∧ ownForm (gt m s) = true ∧ (gt m u').isOwn = false ∧ u' ≠ s ∧ d ≠ s ∧ s < m.length ∧
    (∀ t ∈ foot ops o m ++ [s], lookOk tab wr k t seg c = true) ∧ (∀ y ∈ m, s ∉ y.roots) ∧ appV C.tb m ty (.tmp s) (.tmp u') = some (cs, x, m.set s .dead) ∧ (∀ p ∈ cs, p) ∧ x.roots = []) ∨
  (∃ s tv d x X, wr.lookup k = some (s, tv) ∧ o.dst = some d ∧ (∀ t ∈ C.pin, o.dst ≠ some t) ∧ d ≠ s ∧ u = [(d, killSV d x), (s, killSV d X)] ∧ (∀ t ∈ foot ops o m ++ [s], lookOk tab wr k t seg c = true) ∧
    (∀ m2 : Sl, m2.length = m.length → (∀ t ∈ foot ops o m ++ [s], gt m2 t = gt m t) → (∀ y ∈ m2, kBk tv s y = true ∧ ∀ t ∈ tv, t ∉ y.roots) → StepR P C ops o m2 x (m2.set s X))) ∨
  (∃ s tv d x, wr.lookup k = some (s, tv) ∧ o.dst = some d ∧ (∀ t ∈ C.pin, o.dst ≠ some t) ∧ d ∉ tv ∧ u = ((d, killSV d x) :: tv.map fun t => (t, SV.dead)) ∧ (∀ t ∈ foot ops o m ++ tv, lookOk tab wr k t seg c = true) ∧
    (∀ m2 : Sl, m2.length = m.length → (∀ t ∈ foot ops o m ++ tv, gt m2 t = gt m t) → (∀ y ∈ m2, ∀ t ∈ tv, t ∉ y.roots) → StepR P C ops o m2 x (killL m2 tv)))

theorem own_kill {d : Nat} {y : SV} : ownForm (killSV d y) = ownForm y := by
  unfold killSV
  split
  · rename_i h
    unfold ownForm
    split
    · rename_i e; cases e
    · split
      · simp [SV.roots, RV.roots, CV.roots] at h
      · rfl
  · rfl

section
variable {P : Program} {C : Cfg} {tab : List Nat} {wr : List (Nat × Nat × List Nat)} {seg : List Oper} {c : Nat}

theorem Run.length {ops : List Oper} {os : List Oper} {k : Nat} {sl sl' : Sl} {us : List Ups} (hr : Run P C ops tab wr seg c os k sl us sl') : us.length = os.length := by
  induction hr with
  | nil => rfl
  | st _ _ _ _ _ _ _ _ _ ih => simp [ih]
  | wr _ _ _ _ _ _ _ _ _ _ _ _ _ ih => simp [ih]
  | ap _ _ _ _ _ _ _ _ _ _ _ _ _ _ ih => simp [ih]
  | gen _ _ _ _ _ _ _ _ _ _ _ _ _ ih => simp [ih]
  | gl _ _ _ _ _ _ _ _ _ _ ih => simp [ih]

/-- What a store leaves, in the text's own state. -/
theorem store_self {tb : Tb} {sl : Sl} {ty : TypeId} {op : Op} {cs : List Prop} {x : SV} {sl1 : Sl} {s : Nat} {tv : List Nat} (hT : storeT tb sl ty op = some (s, tv)) (h : opV tb sl ty op = some (cs, x, sl1)) (hstv : s ∉ tv)
    (hk : ∀ y ∈ sl, kBk tv s y = true ∧ ∀ t ∈ tv, t ∉ y.roots) : x = .und ∧ s < sl.length ∧ sl1.length = sl.length ∧ ∀ q, q < sl.length → gt sl1 q = if q = s then gt sl1 s else if q ∈ tv then .dead else gt sl q := by
  obtain ⟨h1, h2, sl2, h3, h4, h5⟩ := store_eff (sl2 := sl) hT h hstv hk rfl (fun _ _ _ _ => ⟨rfl, fun _ _ => rfl⟩) rfl hk
  rw [h] at h3
  simp only [Option.some.injEq, Prod.mk.injEq] at h3
  obtain ⟨-, -, rfl⟩ := h3
  exact ⟨h1, h2, h4, h5⟩

theorem Run.facts {ops : List Oper} {os : List Oper} {k : Nat} {sl sl' : Sl} {us : List Ups} (hr : Run P C ops tab wr seg c os k sl us sl') :
    ∀ (i : Nat) (u : Ups) (x : SV) (t : Nat), us[i]? = some u → u.lookup t = some x → t < sl.length → (∀ r ∈ x.roots, hangOk tab wr (k + i) r seg c = true) ∧ kBs wr x = true := by
  induction hr with
  | nil => intro i u x t h; simp at h
  | st h1 h2 h3 h4 h5 h6 h7 h8 h9 ih =>
    rename_i o os k d sl sl' y us
    intro i u x t h hl ht
    cases i with
    | zero =>
      simp only [List.getElem?_cons_zero, Option.some.injEq] at h
      subst h
      simp only [List.lookup_cons, List.lookup_nil] at hl
      split at hl
      · rename_i e
        have e : t = d := by simpa using e
        subst e
        cases hl
        have e : gt (DL.put sl (some t) y) t = killSV t y := gt_putT ht
        rw [e] at h7 h8
        exact ⟨h7, h8⟩
      · cases hl
    | succ i =>
      have := ih i u x t (by simpa using h) hl (by show t < (putT sl d y).length; rw [putT_len]; exact ht)
      rwa [show k + 1 + i = k + (i + 1) by omega] at this
  | wr h1 h2 h3 h4 h5 h6 h7 h8 h9 h10 h11 h12 h13 ih =>
    rename_i o os k s tv sl sl1 sl' cs y us
    intro i u x t h hl ht
    cases i with
    | zero =>
      simp only [List.getElem?_cons_zero, Option.some.injEq] at h
      subst h
      rw [lookup_wr] at hl
      have hx : x.roots = [] := by
        split at hl
        · cases hl; exact h12.1
        · split at hl
          · cases hl; simp [SV.roots]
          · cases hl
      exact ⟨fun r hr => (by rw [hx] at hr; cases hr), kBs_nil hx⟩
    | succ i =>
      have hl1 := (store_self h5 h9 h6 h8).2.2.1
      have := ih i u x t (by simpa using h) hl (by rw [hl1]; exact ht)
      rwa [show k + 1 + i = k + (i + 1) by omega] at this
  | ap h1 h2 h3 h4 h5 h6 h7 h8 h9 h10 h11 h12 h13 h14 ih =>
    rename_i o os k s u0 d sl sl' ty cs y us
    intro i u x t h hl ht
    cases i with
    | zero =>
      simp only [List.getElem?_cons_zero, Option.some.injEq] at h
      subst h
      have hx : x.roots = [] := by
        simp only [List.lookup_cons, List.lookup_nil] at hl
        split at hl
        · cases hl; exact h13
        · split at hl
          · cases hl; rfl
          · cases hl
      exact ⟨fun r hr => (by rw [hx] at hr; cases hr), kBs_nil hx⟩
    | succ i =>
      have := ih i u x t (by simpa using h) hl (by show t < (putT (sl.set s .dead) d y).length; rw [putT_len, List.length_set]; exact ht)
      rwa [show k + 1 + i = k + (i + 1) by omega] at this
  | gen h1 h2 h3 h4 h5 h6 h7 h8 h9 h10 h11 h12 h13 ih =>
    rename_i o os k s d tv sl sl' y Y us
    intro i u x t h hl ht
    cases i with
    | zero =>
      simp only [List.getElem?_cons_zero, Option.some.injEq] at h
      subst h
      have hx : x.roots = [] := by
        simp only [List.lookup_cons, List.lookup_nil] at hl
        split at hl
        · cases hl; exact h10
        · split at hl
          · cases hl; exact h11
          · cases hl
      exact ⟨fun r hr => (by rw [hx] at hr; cases hr), kBs_nil hx⟩
    | succ i =>
      have := ih i u x t (by simpa using h) hl (by show t < (putT (sl.set s Y) d y).length; rw [putT_len, List.length_set]; exact ht)
      rwa [show k + 1 + i = k + (i + 1) by omega] at this
  | gl h1 h2 h3 h4 h5 h6 h7 h8 h9 h10 ih =>
    rename_i o os k s d tv sl sl' y us
    intro i u x t h hl ht
    cases i with
    | zero =>
      simp only [List.getElem?_cons_zero, Option.some.injEq] at h
      subst h
      rw [lookup_wr] at hl
      have hx : x.roots = [] := by
        split at hl
        · cases hl; exact h9
        · split at hl
          · cases hl; simp [SV.roots]
          · cases hl
      exact ⟨fun r hr => (by rw [hx] at hr; cases hr), kBs_nil hx⟩
    | succ i =>
      have := ih i u x t (by simpa using h) hl (by show t < (putT (killL sl tv) d y).length; rw [putT_len, killL_length]; exact ht)
      rwa [show k + 1 + i = k + (i + 1) by omega] at this

theorem Run.tg {ops : List Oper} {os : List Oper} {k : Nat} {sl sl' : Sl} {us : List Ups} (hr : Run P C ops tab wr seg c os k sl us sl') :
    ∀ (i : Nat) (u : Ups) (o : Oper) (t : Nat), us[i]? = some u → os[i]? = some o → (u.lookup t).isSome = true → t ∈ tgts wr (k + i) o := by
  induction hr with
  | nil => intro i u o t h; simp at h
  | st h1 h2 h3 h4 h5 h6 h7 h8 h9 ih =>
    rename_i o os k d sl sl' y us
    intro i u o' t h ho hl
    cases i with
    | zero =>
      simp only [List.getElem?_cons_zero, Option.some.injEq] at h ho
      subst h ho
      simp only [List.lookup_cons, List.lookup_nil] at hl
      split at hl
      · rename_i e
        have e : t = d := by simpa using e
        simp [tgts, h5, e]
      · cases hl
    | succ i =>
      have := ih i u o' t (by simpa using h) (by simpa using ho) hl
      rwa [show k + 1 + i = k + (i + 1) by omega] at this
  | wr h1 h2 h3 h4 h5 h6 h7 h8 h9 h10 h11 h12 h13 ih =>
    rename_i o os k s tv sl sl1 sl' cs y us
    intro i u o' t h ho hl
    cases i with
    | zero =>
      simp only [List.getElem?_cons_zero, Option.some.injEq] at h ho
      subst h ho
      rw [lookup_wr] at hl
      rw [Nat.add_zero]
      simp only [tgts, wrS, h1, h3, Option.toList_none, List.nil_append, List.mem_cons]
      split at hl
      · rename_i e; exact .inl e
      · split at hl
        · rename_i e; exact .inr e
        · cases hl
    | succ i =>
      have := ih i u o' t (by simpa using h) (by simpa using ho) hl
      rwa [show k + 1 + i = k + (i + 1) by omega] at this
  | ap h1 h2 h3 h4 h5 h6 h7 h8 h9 h10 h11 h12 h13 h14 ih =>
    rename_i o os k s u0 d sl sl' ty cs y us
    intro i u o' t h ho hl
    cases i with
    | zero =>
      simp only [List.getElem?_cons_zero, Option.some.injEq] at h ho
      subst h ho
      rw [Nat.add_zero]
      simp only [List.lookup_cons, List.lookup_nil] at hl
      simp only [tgts, wrS, h1, h2.dst, Option.toList_some, List.mem_append, List.mem_cons, List.not_mem_nil, or_false]
      split at hl
      · rename_i e; exact .inl (by simpa using e)
      · split at hl
        · rename_i e; exact .inr (.inl (by simpa using e))
        · cases hl
    | succ i =>
      have := ih i u o' t (by simpa using h) (by simpa using ho) hl
      rwa [show k + 1 + i = k + (i + 1) by omega] at this
  | gen h1 h2 h3 h4 h5 h6 h7 h8 h9 h10 h11 h12 h13 ih =>
    rename_i o os k s d tv sl sl' y Y us
    intro i u o' t h ho hl
    cases i with
    | zero =>
      simp only [List.getElem?_cons_zero, Option.some.injEq] at h ho
      subst h ho
      rw [Nat.add_zero]
      simp only [List.lookup_cons, List.lookup_nil] at hl
      simp only [tgts, wrS, h1, h3, Option.toList_some, List.mem_append, List.mem_cons, List.not_mem_nil, or_false]
      split at hl
      · rename_i e; exact .inl (by simpa using e)
      · split at hl
        · rename_i e; exact .inr (.inl (by simpa using e))
        · cases hl
    | succ i =>
      have := ih i u o' t (by simpa using h) (by simpa using ho) hl
      rwa [show k + 1 + i = k + (i + 1) by omega] at this
  | gl h1 h2 h3 h4 h5 h6 h7 h8 h9 h10 ih =>
    rename_i o os k s d tv sl sl' y us
    intro i u o' t h ho hl
    cases i with
    | zero =>
      simp only [List.getElem?_cons_zero, Option.some.injEq] at h ho
      subst h ho
      rw [lookup_wr] at hl
      rw [Nat.add_zero]
      simp only [tgts, wrS, h1, h3, Option.toList_some, List.mem_append, List.mem_cons, List.not_mem_nil, or_false]
      split at hl
      · rename_i e; exact .inl e
      · split at hl
        · rename_i e; exact .inr (.inr e)
        · cases hl
    | succ i =>
      have := ih i u o' t (by simpa using h) (by simpa using ho) hl
      rwa [show k + 1 + i = k + (i + 1) by omega] at this

/-- A slot that is only written through keeps its form. -/
theorem Run.form {ops : List Oper} {os : List Oper} {k : Nat} {sl sl' : Sl} {us : List Ups} (hr : Run P C ops tab wr seg c os k sl us sl') {t : Nat} (hk : t ∉ killsOf wr os k) (htl : t < sl.length) :
    ∀ (i : Nat) (u : Ups) (x : SV), us[i]? = some u → u.lookup t = some x → ownForm x = ownForm (gt sl t) := by
  induction hr with
  | nil => intro i u x h; simp at h
  | st h1 h2 h3 h4 h5 h6 h7 h8 h9 ih =>
    rename_i o os k d sl sl' y us
    intro i u x h hl
    simp only [killsOf, List.mem_append, not_or] at hk
    have htd : t ≠ d := fun e => hk.1 (by simp [kills, h5, e])
    cases i with
    | zero =>
      simp only [List.getElem?_cons_zero, Option.some.injEq] at h
      subst h
      simp only [List.lookup_cons, List.lookup_nil] at hl
      split at hl
      · rename_i e
        exact absurd (by simpa using e) htd
      · cases hl
    | succ i =>
      have e : gt (DL.put sl (some d) y) t = killSV d (gt sl t) := by
        show gt ((sl.map (killSV d)).set d (killSV d y)) t = _
        unfold gt
        rw [List.getD_eq_getElem?_getD, List.getElem?_set_ne (Ne.symm htd), List.getElem?_map, List.getD_eq_getElem?_getD, List.getElem?_eq_getElem htl]
        rfl
      have := ih hk.2 (by show t < (putT sl d y).length; rw [putT_len]; exact htl) i u x (by simpa using h) hl
      rw [this, e, own_kill]
  | wr h1 h2 h3 h4 h5 h6 h7 h8 h9 h10 h11 h12 h13 ih =>
    rename_i o os k s tv sl sl1 sl' cs y us
    intro i u x h hl
    simp only [killsOf, List.mem_append, not_or] at hk
    have httv : t ∉ tv := fun e => hk.1 (by simp [kills, wrK, h1, e])
    obtain ⟨-, -, g1, g2⟩ := store_self h5 h9 h6 h8
    cases i with
    | zero =>
      simp only [List.getElem?_cons_zero, Option.some.injEq] at h
      subst h
      rw [lookup_wr] at hl
      split at hl
      · rename_i e
        cases hl
        rw [e]; exact h11.1.symm
      · first | (cases hl; done) | (split at hl; rename_i e; exact absurd e httv; cases hl)
    | succ i =>
      have := ih hk.2 (by rw [g1]; exact htl) i u x (by simpa using h) hl
      rw [this, g2 t htl]
      by_cases e : t = s
      · rw [if_pos e, e]; exact h11.1.symm
      · rw [if_neg e, if_neg httv]
  | ap h1 h2 h3 h4 h5 h6 h7 h8 h9 h10 h11 h12 h13 h14 ih =>
    rename_i o os k s u0 d sl sl' ty cs y us
    intro i u x h hl
    simp only [killsOf, List.mem_append, not_or] at hk
    have htd : t ≠ d := fun e => hk.1 (by simp [kills, h2.dst, e])
    have hts : t ≠ s := fun e => hk.1 (by simp [kills, wrK, h1, e])
    cases i with
    | zero =>
      simp only [List.getElem?_cons_zero, Option.some.injEq] at h
      subst h
      simp only [List.lookup_cons, List.lookup_nil] at hl
      split at hl
      · rename_i e; exact absurd (by simpa using e) htd
      · split at hl
        · rename_i e; exact absurd (by simpa using e) hts
        · cases hl
    | succ i =>
      have e : gt (DL.put (sl.set s .dead) (some d) y) t = killSV d (gt sl t) := by
        show gt (((sl.set s .dead).map (killSV d)).set d (killSV d y)) t = _
        rw [gt_set_ne htd]
        unfold gt
        rw [List.getD_eq_getElem?_getD, List.getElem?_map, List.getElem?_set_ne (Ne.symm hts), List.getD_eq_getElem?_getD, List.getElem?_eq_getElem htl]
        rfl
      have := ih hk.2 (by show t < (putT (sl.set s .dead) d y).length; rw [putT_len, List.length_set]; exact htl) i u x (by simpa using h) hl
      rw [this, e, own_kill]
  | gen h1 h2 h3 h4 h5 h6 h7 h8 h9 h10 h11 h12 h13 ih =>
    rename_i o os k s d tv sl sl' y Y us
    intro i u x h hl
    simp only [killsOf, List.mem_append, not_or] at hk
    have htd : t ≠ d := fun e => hk.1 (by simp [kills, h3, e])
    have hts : t = s → s ∉ tv := fun e hm => hk.1 (by simp [kills, wrK, h1, e, hm])
    cases i with
    | zero =>
      simp only [List.getElem?_cons_zero, Option.some.injEq] at h
      subst h
      simp only [List.lookup_cons, List.lookup_nil] at hl
      split at hl
      · rename_i e; exact absurd (by simpa using e) htd
      · split at hl
        · rename_i e
          have e : t = s := by simpa using e
          cases hl
          rw [e]; exact (h12 (hts e)).1.symm
        · cases hl
    | succ i =>
      have e : gt (DL.put (sl.set s Y) (some d) y) t = killSV d (gt (sl.set s Y) t) := gt_put_ne (Ne.symm htd) (by simpa using htl)
      have := ih hk.2 (by show t < (putT (sl.set s Y) d y).length; rw [putT_len, List.length_set]; exact htl) i u x (by simpa using h) hl
      rw [this, e, gt_set h6]
      by_cases e2 : t = s
      · rw [if_pos e2, e2]; exact (h12 (hts e2)).1.symm
      · rw [if_neg e2, own_kill]
  | gl h1 h2 h3 h4 h5 h6 h7 h8 h9 h10 ih =>
    rename_i o os k s d tv sl sl' y us
    intro i u x h hl
    simp only [killsOf, List.mem_append, not_or] at hk
    have htd : t ≠ d := fun e => hk.1 (by simp [kills, h3, e])
    have htt : t ∉ tv := fun hm => hk.1 (by simp [kills, wrK, h1, hm])
    cases i with
    | zero =>
      simp only [List.getElem?_cons_zero, Option.some.injEq] at h
      subst h
      rw [lookup_wr, if_neg htd, if_neg htt] at hl
      cases hl
    | succ i =>
      have e : gt (DL.put (killL sl tv) (some d) y) t = killSV d (gt (killL sl tv) t) := gt_put_ne (Ne.symm htd) (by rw [killL_length]; exact htl)
      have := ih hk.2 (by show t < (putT (killL sl tv) d y).length; rw [putT_len, killL_length]; exact htl) i u x (by simpa using h) hl
      rw [this, e, gt_killL, if_neg htt, own_kill]

theorem bxI_kill {d : Nat} {y : SV} : bxI (killSV d y) = bxI y := by
  unfold killSV
  split
  · rename_i h
    have : y.roots.isEmpty = false := by
      cases hy : y.roots with
      | nil => rw [hy] at h; cases h
      | cons _ _ => rfl
    simp only [bxI, this, Bool.and_false]
    rfl
  · rfl
theorem Run.isb {ops : List Oper} {os : List Oper} {k : Nat} {sl sl' : Sl} {us : List Ups} (hr : Run P C ops tab wr seg c os k sl us sl') {t : Nat} (hk : t ∉ killsOf wr os k) (htl : t < sl.length) :
    ∀ (i : Nat) (u : Ups) (x : SV), us[i]? = some u → u.lookup t = some x → bxI x = bxI (gt sl t) := by
  induction hr with
  | nil => intro i u x h; simp at h
  | st h1 h2 h3 h4 h5 h6 h7 h8 h9 ih =>
    rename_i o os k d sl sl' y us
    intro i u x h hl
    simp only [killsOf, List.mem_append, not_or] at hk
    have htd : t ≠ d := fun e => hk.1 (by simp [kills, h5, e])
    cases i with
    | zero =>
      simp only [List.getElem?_cons_zero, Option.some.injEq] at h
      subst h
      simp only [List.lookup_cons, List.lookup_nil] at hl
      split at hl
      · rename_i e
        exact absurd (by simpa using e) htd
      · cases hl
    | succ i =>
      have e : gt (DL.put sl (some d) y) t = killSV d (gt sl t) := by
        show gt ((sl.map (killSV d)).set d (killSV d y)) t = _
        unfold gt
        rw [List.getD_eq_getElem?_getD, List.getElem?_set_ne (Ne.symm htd), List.getElem?_map, List.getD_eq_getElem?_getD, List.getElem?_eq_getElem htl]
        rfl
      have := ih hk.2 (by show t < (putT sl d y).length; rw [putT_len]; exact htl) i u x (by simpa using h) hl
      rw [this, e, bxI_kill]
  | wr h1 h2 h3 h4 h5 h6 h7 h8 h9 h10 h11 h12 h13 ih =>
    rename_i o os k s tv sl sl1 sl' cs y us
    intro i u x h hl
    simp only [killsOf, List.mem_append, not_or] at hk
    have httv : t ∉ tv := fun e => hk.1 (by simp [kills, wrK, h1, e])
    obtain ⟨-, -, g1, g2⟩ := store_self h5 h9 h6 h8
    cases i with
    | zero =>
      simp only [List.getElem?_cons_zero, Option.some.injEq] at h
      subst h
      rw [lookup_wr] at hl
      split at hl
      · rename_i e
        cases hl
        rw [e]; exact h11.2.symm
      · first | (cases hl; done) | (split at hl; rename_i e; exact absurd e httv; cases hl)
    | succ i =>
      have := ih hk.2 (by rw [g1]; exact htl) i u x (by simpa using h) hl
      rw [this, g2 t htl]
      by_cases e : t = s
      · rw [if_pos e, e]; exact h11.2.symm
      · rw [if_neg e, if_neg httv]
  | ap h1 h2 h3 h4 h5 h6 h7 h8 h9 h10 h11 h12 h13 h14 ih =>
    rename_i o os k s u0 d sl sl' ty cs y us
    intro i u x h hl
    simp only [killsOf, List.mem_append, not_or] at hk
    have htd : t ≠ d := fun e => hk.1 (by simp [kills, h2.dst, e])
    have hts : t ≠ s := fun e => hk.1 (by simp [kills, wrK, h1, e])
    cases i with
    | zero =>
      simp only [List.getElem?_cons_zero, Option.some.injEq] at h
      subst h
      simp only [List.lookup_cons, List.lookup_nil] at hl
      split at hl
      · rename_i e; exact absurd (by simpa using e) htd
      · split at hl
        · rename_i e; exact absurd (by simpa using e) hts
        · cases hl
    | succ i =>
      have e : gt (DL.put (sl.set s .dead) (some d) y) t = killSV d (gt sl t) := by
        show gt (((sl.set s .dead).map (killSV d)).set d (killSV d y)) t = _
        rw [gt_set_ne htd]
        unfold gt
        rw [List.getD_eq_getElem?_getD, List.getElem?_map, List.getElem?_set_ne (Ne.symm hts), List.getD_eq_getElem?_getD, List.getElem?_eq_getElem htl]
        rfl
      have := ih hk.2 (by show t < (putT (sl.set s .dead) d y).length; rw [putT_len, List.length_set]; exact htl) i u x (by simpa using h) hl
      rw [this, e, bxI_kill]
  | gen h1 h2 h3 h4 h5 h6 h7 h8 h9 h10 h11 h12 h13 ih =>
    rename_i o os k s d tv sl sl' y Y us
    intro i u x h hl
    simp only [killsOf, List.mem_append, not_or] at hk
    have htd : t ≠ d := fun e => hk.1 (by simp [kills, h3, e])
    have hts : t = s → s ∉ tv := fun e hm => hk.1 (by simp [kills, wrK, h1, e, hm])
    cases i with
    | zero =>
      simp only [List.getElem?_cons_zero, Option.some.injEq] at h
      subst h
      simp only [List.lookup_cons, List.lookup_nil] at hl
      split at hl
      · rename_i e; exact absurd (by simpa using e) htd
      · split at hl
        · rename_i e
          have e : t = s := by simpa using e
          cases hl
          rw [e]; exact (h12 (hts e)).2.symm
        · cases hl
    | succ i =>
      have e : gt (DL.put (sl.set s Y) (some d) y) t = killSV d (gt (sl.set s Y) t) := gt_put_ne (Ne.symm htd) (by simpa using htl)
      have := ih hk.2 (by show t < (putT (sl.set s Y) d y).length; rw [putT_len, List.length_set]; exact htl) i u x (by simpa using h) hl
      rw [this, e, gt_set h6]
      by_cases e2 : t = s
      · rw [if_pos e2, e2]; exact (h12 (hts e2)).2.symm
      · rw [if_neg e2, bxI_kill]
  | gl h1 h2 h3 h4 h5 h6 h7 h8 h9 h10 ih =>
    rename_i o os k s d tv sl sl' y us
    intro i u x h hl
    simp only [killsOf, List.mem_append, not_or] at hk
    have htd : t ≠ d := fun e => hk.1 (by simp [kills, h3, e])
    have htt : t ∉ tv := fun hm => hk.1 (by simp [kills, wrK, h1, hm])
    cases i with
    | zero =>
      simp only [List.getElem?_cons_zero, Option.some.injEq] at h
      subst h
      rw [lookup_wr, if_neg htd, if_neg htt] at hl
      cases hl
    | succ i =>
      have e : gt (DL.put (killL sl tv) (some d) y) t = killSV d (gt (killL sl tv) t) := gt_put_ne (Ne.symm htd) (by rw [killL_length]; exact htl)
      have := ih hk.2 (by show t < (putT (killL sl tv) d y).length; rw [putT_len, killL_length]; exact htl) i u x (by simpa using h) hl
      rw [this, e, gt_killL, if_neg htt, bxI_kill]

/-- A box that is written below its cells alone keeps its form. -/
theorem bxForm_kill {d : Nat} {y : SV} : bxForm (killSV d y) = bxForm y := by
  unfold killSV
  split
  · rename_i h
    have : y.roots.isEmpty = false := by
      cases hy : y.roots with
      | nil => rw [hy] at h; cases h
      | cons _ _ => rfl
    simp only [bxForm, this]
    rfl
  · rfl
theorem Run.bform {ops : List Oper} {os : List Oper} {k : Nat} {sl sl' : Sl} {us : List Ups} (hr : Run P C ops tab wr seg c os k sl us sl') {t : Nat} (hk : t ∉ killsOf wr os k) (htl : t < sl.length)
    (hw : ∀ k tv, wr.lookup k = some (t, tv) → tv = [deepM]) :
    ∀ (i : Nat) (u : Ups) (x : SV), us[i]? = some u → u.lookup t = some x → bxForm x = bxForm (gt sl t) := by
  induction hr with
  | nil => intro i u x h; simp at h
  | st h1 h2 h3 h4 h5 h6 h7 h8 h9 ih =>
    rename_i o os k d sl sl' y us
    intro i u x h hl
    simp only [killsOf, List.mem_append, not_or] at hk
    have htd : t ≠ d := fun e => hk.1 (by simp [kills, h5, e])
    cases i with
    | zero =>
      simp only [List.getElem?_cons_zero, Option.some.injEq] at h
      subst h
      simp only [List.lookup_cons, List.lookup_nil] at hl
      split at hl
      · rename_i e
        exact absurd (by simpa using e) htd
      · cases hl
    | succ i =>
      have e : gt (DL.put sl (some d) y) t = killSV d (gt sl t) := gt_put_ne (Ne.symm htd) htl
      rw [ih hk.2 (by show t < (putT sl d y).length; rw [putT_len]; exact htl) i u x (by simpa using h) hl, e, bxForm_kill]
  | wr h1 h2 h3 h4 h5 h6 h7 h8 h9 h10 h11 h12 h13 ih =>
    rename_i o os k s tv sl sl1 sl' cs y us
    intro i u x h hl
    simp only [killsOf, List.mem_append, not_or] at hk
    have httv : t ∉ tv := fun e => hk.1 (by simp [kills, wrK, h1, e])
    obtain ⟨-, -, g1, g2⟩ := store_self h5 h9 h6 h8
    have hs : t = s → bxForm (gt sl1 s) = bxForm (gt sl t) := fun e => by
      subst e
      obtain ⟨q1, q2⟩ := h12.2 (hw _ _ h1)
      simp only [bxForm, q1, q2, h12.1]
    cases i with
    | zero =>
      simp only [List.getElem?_cons_zero, Option.some.injEq] at h
      subst h
      rw [lookup_wr] at hl
      split at hl
      · rename_i e
        cases hl
        exact hs e
      · first | (cases hl; done) | (split at hl; rename_i e; exact absurd e httv; cases hl)
    | succ i =>
      rw [ih hk.2 (by rw [g1]; exact htl) i u x (by simpa using h) hl, g2 t htl]
      by_cases e : t = s
      · rw [if_pos e]; exact hs e
      · rw [if_neg e, if_neg httv]
  | ap h1 h2 h3 h4 h5 h6 h7 h8 h9 h10 h11 h12 h13 h14 ih =>
    rename_i o os k s u0 d sl sl' ty cs y us
    intro i u x h hl
    simp only [killsOf, List.mem_append, not_or] at hk
    have htd : t ≠ d := fun e => hk.1 (by simp [kills, h2.dst, e])
    have hts : t ≠ s := fun e => hk.1 (by simp [kills, wrK, h1, e])
    cases i with
    | zero =>
      simp only [List.getElem?_cons_zero, Option.some.injEq] at h
      subst h
      simp only [List.lookup_cons, List.lookup_nil] at hl
      split at hl
      · rename_i e; exact absurd (by simpa using e) htd
      · split at hl
        · rename_i e; exact absurd (by simpa using e) hts
        · cases hl
    | succ i =>
      have e : gt (DL.put (sl.set s .dead) (some d) y) t = killSV d (gt sl t) := (gt_put_ne (Ne.symm htd) (by simpa using htl)).trans (by rw [gt_set_ne hts])
      rw [ih hk.2 (by show t < (putT (sl.set s .dead) d y).length; rw [putT_len, List.length_set]; exact htl) i u x (by simpa using h) hl, e, bxForm_kill]
  | gen h1 h2 h3 h4 h5 h6 h7 h8 h9 h10 h11 h12 h13 ih =>
    rename_i o os k s d tv sl sl' y Y us
    intro i u x h hl
    simp only [killsOf, List.mem_append, not_or] at hk
    have htd : t ≠ d := fun e => hk.1 (by simp [kills, h3, e])
    have hts : t ≠ s := fun e => by
      subst e
      have e1 := hw _ _ h1
      have e2 := h2 deepM (by rw [e1]; simp)
      exact hk.1 (by simp [kills, wrK, h1, e1, e2])
    cases i with
    | zero =>
      simp only [List.getElem?_cons_zero, Option.some.injEq] at h
      subst h
      simp only [List.lookup_cons, List.lookup_nil] at hl
      split at hl
      · rename_i e; exact absurd (by simpa using e) htd
      · split at hl
        · rename_i e; exact absurd (by simpa using e) hts
        · cases hl
    | succ i =>
      have e : gt (DL.put (sl.set s Y) (some d) y) t = killSV d (gt sl t) := (gt_put_ne (Ne.symm htd) (by simpa using htl)).trans (by rw [gt_set_ne hts])
      rw [ih hk.2 (by show t < (putT (sl.set s Y) d y).length; rw [putT_len, List.length_set]; exact htl) i u x (by simpa using h) hl, e, bxForm_kill]
  | gl h1 h2 h3 h4 h5 h6 h7 h8 h9 h10 ih =>
    rename_i o os k s d tv sl sl' y us
    intro i u x h hl
    simp only [killsOf, List.mem_append, not_or] at hk
    have htd : t ≠ d := fun e => hk.1 (by simp [kills, h3, e])
    have htt : t ∉ tv := fun hm => hk.1 (by simp [kills, wrK, h1, hm])
    cases i with
    | zero =>
      simp only [List.getElem?_cons_zero, Option.some.injEq] at h
      subst h
      rw [lookup_wr, if_neg htd, if_neg htt] at hl
      cases hl
    | succ i =>
      have e : gt (DL.put (killL sl tv) (some d) y) t = killSV d (gt sl t) := (gt_put_ne (Ne.symm htd) (by rw [killL_length]; exact htl)).trans (by rw [gt_killL, if_neg htt])
      rw [ih hk.2 (by show t < (putT (killL sl tv) d y).length; rw [putT_len, killL_length]; exact htl) i u x (by simpa using h) hl, e, bxForm_kill]

section
variable {ops : List Oper} {sl0 : Sl} {us : List Ups}

/-- The text's own states are merged states. -/
theorem Run.states {os : List Oper} {k : Nat} {sl sl' : Sl} {vs : List Ups} (hr : Run P C ops tab wr seg c os k sl vs sl') (hB : ∀ k b, (tab.getD k 0).testBit b = true → b < k) (h : Seg tab wr seg c sl0 us) (hck : c ≤ k)
    (hdrop : us.drop (k - c) = vs) (hseg : seg.drop (k - c) = os) (hsl : sl = mrg (fun j => decide (j < k)) sl0 us c) :
    sl' = mrg (fun j => decide (j < k + os.length)) sl0 us c ∧ ∀ i o u, us[i]? = some u → seg[i]? = some o → k ≤ c + i → StOk P C ops tab wr seg c (c + i) o u (mrg (fun j => decide (j < c + i)) sl0 us c) := by
  have more : ∀ k, c ≤ k → upd (fun j => decide (j < k)) (c + (k - c)) = fun j => decide (j < k + 1) := fun k hk => by
    funext j
    unfold upd
    by_cases e : j = k
    · rw [if_pos (by omega)]; simp [e]
    · rw [if_neg (by omega)]
      simp only [decide_eq_decide]
      omega
  have closed : ∀ k j, (decide (j < k)) = true → ∀ b, (tab.getD j 0).testBit b = true → (decide (b < k)) = true := fun k j hj b hb => by
    have := hB j b hb
    have hj' : j < k := by simpa using hj
    simp; omega
  induction hr with
  | nil =>
    rename_i k sl
    refine ⟨by simpa using hsl, fun i o u hi ho hk => ?_⟩
    have : (us.drop (k - c))[i - (k - c)]? = some u := by
      rw [List.getElem?_drop, show k - c + (i - (k - c)) = i by omega]; exact hi
    rw [hdrop] at this
    simp at this
  | st h1 h2 h3 h4 h5 h6 h7 h8 h9 ih =>
    rename_i o os k d sl sl' x vs
    have hi : us[k - c]? = some [(d, killSV d x)] := by
      have : (us.drop (k - c))[0]? = some [(d, killSV d x)] := by rw [hdrop]; rfl
      rwa [List.getElem?_drop, Nat.add_zero] at this
    have ho : seg[k - c]? = some o := by
      have : (seg.drop (k - c))[0]? = some o := by rw [hseg]; rfl
      rwa [List.getElem?_drop, Nat.add_zero] at this
    have hk : c + (k - c) = k := by omega
    have hput : DL.put sl (some d) x = mrg (fun j => decide (j < k + 1)) sl0 us c := by
      rw [hsl, h.put (i := k - c) (o := o) (closed k) hi ho h5 (by simp [hk]), more k hck]
    obtain ⟨g1, g2⟩ := ih (by omega) (by
      have : us.drop (k + 1 - c) = (us.drop (k - c)).drop 1 := by rw [List.drop_drop]; congr 1; omega
      rw [this, hdrop]; rfl) (by
      have : seg.drop (k + 1 - c) = (seg.drop (k - c)).drop 1 := by rw [List.drop_drop]; congr 1; omega
      rw [this, hseg]; rfl) hput
    refine ⟨by rw [g1]; congr 1; funext j; congr 1; rw [List.length_cons]; exact propext ⟨fun h => by omega, fun h => by omega⟩, fun i o' u' hi' ho' hki => ?_⟩
    by_cases e : c + i = k
    · have : i = k - c := by omega
      subst this
      rw [hi] at hi'
      rw [ho] at ho'
      cases hi'
      cases ho'
      rw [hk, ← hsl]
      exact .inl ⟨d, x, h1, h5, rfl, h6, h2, h3, h4⟩
    · exact g2 i o' u' hi' ho' (by omega)
  | wr h1 h2 h3 h4 h5 h6 h7 h8 h9 h10 h11 h12 h13 ih =>
    rename_i o os k s tv sl sl1 sl' cs x vs
    have hi : us[k - c]? = some ((s, gt sl1 s) :: tv.map fun t => (t, SV.dead)) := by
      have : (us.drop (k - c))[0]? = some ((s, gt sl1 s) :: tv.map fun t => (t, SV.dead)) := by rw [hdrop]; rfl
      rwa [List.getElem?_drop, Nat.add_zero] at this
    have ho : seg[k - c]? = some o := by
      have : (seg.drop (k - c))[0]? = some o := by rw [hseg]; rfl
      rwa [List.getElem?_drop, Nat.add_zero] at this
    have hk : c + (k - c) = k := by omega
    have hput : sl1 = mrg (fun j => decide (j < k + 1)) sl0 us c := by
      have := h.store (C := C) (i := k - c) (o := o) (closed k) hi ho (by rw [hk]; exact h1) (by simp [hk]) h5 h9 h6 h8 (by rw [hsl, mrg_len]) (fun _ _ _ _ => ⟨by rw [hsl], fun _ _ => by rw [hsl]⟩) (by rw [hsl])
      rw [more k hck] at this
      rw [hsl] at h9
      rw [h9] at this
      simp only [Option.some.injEq, Prod.mk.injEq] at this
      exact this.2.2
    obtain ⟨g1, g2⟩ := ih (by omega) (by
      have : us.drop (k + 1 - c) = (us.drop (k - c)).drop 1 := by rw [List.drop_drop]; congr 1; omega
      rw [this, hdrop]; rfl) (by
      have : seg.drop (k + 1 - c) = (seg.drop (k - c)).drop 1 := by rw [List.drop_drop]; congr 1; omega
      rw [this, hseg]; rfl) hput
    refine ⟨by rw [g1]; congr 1; funext j; congr 1; rw [List.length_cons]; exact propext ⟨fun h => by omega, fun h => by omega⟩, fun i o' u' hi' ho' hki => ?_⟩
    by_cases e : c + i = k
    · have : i = k - c := by omega
      subst this
      rw [hi] at hi'
      rw [ho] at ho'
      cases hi'
      cases ho'
      rw [hk, ← hsl]
      exact .inr (.inl ⟨s, tv, sl1, cs, x, h1, h2, h3, h4, rfl, h5, h6, h7, h8, h9, h10, h11.1⟩)
    · exact g2 i o' u' hi' ho' (by omega)
  | ap h1 h2 h3 h4 h5 h6 h7 h8 h9 h10 h11 h12 h13 h14 ih =>
    rename_i o os k s u0 d sl sl' ty cs x vs
    have hi : us[k - c]? = some [(d, x), (s, SV.dead)] := by
      have : (us.drop (k - c))[0]? = some [(d, x), (s, SV.dead)] := by rw [hdrop]; rfl
      rwa [List.getElem?_drop, Nat.add_zero] at this
    have ho : seg[k - c]? = some o := by
      have : (seg.drop (k - c))[0]? = some o := by rw [hseg]; rfl
      rwa [List.getElem?_drop, Nat.add_zero] at this
    have hk : c + (k - c) = k := by omega
    have hput : DL.put (sl.set s .dead) (some d) x = mrg (fun j => decide (j < k + 1)) sl0 us c := by
      have := h.app (i := k - c) (o := o) (closed k) hi ho (by rw [hk]; exact h1) h2.dst h7 h13 (by simp [hk]) (by rw [hsl, mrg_len] at h8; exact h8)
      rw [more k hck, ← hsl] at this
      exact this
    obtain ⟨g1, g2⟩ := ih (by omega) (by
      have : us.drop (k + 1 - c) = (us.drop (k - c)).drop 1 := by rw [List.drop_drop]; congr 1; omega
      rw [this, hdrop]; rfl) (by
      have : seg.drop (k + 1 - c) = (seg.drop (k - c)).drop 1 := by rw [List.drop_drop]; congr 1; omega
      rw [this, hseg]; rfl) hput
    refine ⟨by rw [g1]; congr 1; funext j; congr 1; rw [List.length_cons]; exact propext ⟨fun h => by omega, fun h => by omega⟩, fun i o' u' hi' ho' hki => ?_⟩
    by_cases e : c + i = k
    · have : i = k - c := by omega
      subst this
      rw [hi] at hi'
      rw [ho] at ho'
      cases hi'
      cases ho'
      rw [hk, ← hsl]
      exact .inr (.inr (.inl ⟨s, u0, d, ty, cs, x, h1, h2, h3, rfl, h4, h5, h6, h7, h8, h9, h10, h11, h12, h13⟩))
    · exact g2 i o' u' hi' ho' (by omega)
  | gen h1 h2 h3 h4 h5 h6 h7 h8 h9 h10 h11 h12 h13 ih =>
    rename_i o os k s d tv sl sl' x X vs
    have hi : us[k - c]? = some [(d, killSV d x), (s, killSV d X)] := by
      have : (us.drop (k - c))[0]? = some [(d, killSV d x), (s, killSV d X)] := by rw [hdrop]; rfl
      rwa [List.getElem?_drop, Nat.add_zero] at this
    have ho : seg[k - c]? = some o := by
      have : (seg.drop (k - c))[0]? = some o := by rw [hseg]; rfl
      rwa [List.getElem?_drop, Nat.add_zero] at this
    have hk : c + (k - c) = k := by omega
    have hput : DL.put (sl.set s X) (some d) x = mrg (fun j => decide (j < k + 1)) sl0 us c := by
      have := h.gen (i := k - c) (o := o) (closed k) hi ho h3 h5 (by simp [hk])
      rw [more k hck, ← hsl] at this
      exact this
    obtain ⟨g1, g2⟩ := ih (by omega) (by
      have : us.drop (k + 1 - c) = (us.drop (k - c)).drop 1 := by rw [List.drop_drop]; congr 1; omega
      rw [this, hdrop]; rfl) (by
      have : seg.drop (k + 1 - c) = (seg.drop (k - c)).drop 1 := by rw [List.drop_drop]; congr 1; omega
      rw [this, hseg]; rfl) hput
    refine ⟨by rw [g1]; congr 1; funext j; congr 1; rw [List.length_cons]; exact propext ⟨fun h => by omega, fun h => by omega⟩, fun i o' u' hi' ho' hki => ?_⟩
    by_cases e : c + i = k
    · have : i = k - c := by omega
      subst this
      rw [hi] at hi'
      rw [ho] at ho'
      cases hi'
      cases ho'
      rw [hk, ← hsl]
      exact .inr (.inr (.inr (.inl ⟨s, tv, d, x, X, h1, h3, h4, h5, rfl, h7, fun m2 a b cc => h9 m2 a b fun y hy => ⟨kBk_kB h2 (cc y hy).1, (cc y hy).2⟩⟩)))
    · exact g2 i o' u' hi' ho' (by omega)
  | gl h1 h2 h3 h4 h5 h6 h7 h8 h9 h10 ih =>
    rename_i o os k s d tv sl sl' x vs
    have hi : us[k - c]? = some ((d, killSV d x) :: tv.map fun t => (t, SV.dead)) := by
      have : (us.drop (k - c))[0]? = some ((d, killSV d x) :: tv.map fun t => (t, SV.dead)) := by rw [hdrop]; rfl
      rwa [List.getElem?_drop, Nat.add_zero] at this
    have ho : seg[k - c]? = some o := by
      have : (seg.drop (k - c))[0]? = some o := by rw [hseg]; rfl
      rwa [List.getElem?_drop, Nat.add_zero] at this
    have hk : c + (k - c) = k := by omega
    have hput : DL.put (killL sl tv) (some d) x = mrg (fun j => decide (j < k + 1)) sl0 us c := by
      have := h.gl (i := k - c) (o := o) (closed k) hi ho h3 h5 (by simp [hk])
      rw [more k hck, ← hsl] at this
      exact this
    obtain ⟨g1, g2⟩ := ih (by omega) (by
      have : us.drop (k + 1 - c) = (us.drop (k - c)).drop 1 := by rw [List.drop_drop]; congr 1; omega
      rw [this, hdrop]; rfl) (by
      have : seg.drop (k + 1 - c) = (seg.drop (k - c)).drop 1 := by rw [List.drop_drop]; congr 1; omega
      rw [this, hseg]; rfl) hput
    refine ⟨by rw [g1]; congr 1; funext j; congr 1; rw [List.length_cons]; exact propext ⟨fun h => by omega, fun h => by omega⟩, fun i o' u' hi' ho' hki => ?_⟩
    by_cases e : c + i = k
    · have : i = k - c := by omega
      subst this
      rw [hi] at hi'
      rw [ho] at ho'
      cases hi'
      cases ho'
      rw [hk, ← hsl]
      exact .inr (.inr (.inr (.inr ⟨s, tv, d, x, h1, h3, h4, h5, rfl, h6, h8⟩)))
    · exact g2 i o' u' hi' ho' (by omega)

/-- An own slot is moved: its header alone is looked at. -/
theorem step_own {o : Oper} {m m2 : Sl} {y : SV} {t : Nat} (hop : o.op = .move (.tmp t)) (hx : isX C o = false) (h1 : ownForm (gt m t) = true) (h2 : ownForm (gt m2 t) = true)
    (hg : ∀ u ∈ guardSl ops o, gt m2 u = gt m u) (h : StepR P C ops o m y m) : StepR P C ops o m2 y m2 := by
  have val : ∀ (z : Sl), ownForm (gt z t) = true → opV C.tb z o.type (.move (.tmp t)) = some ([], .one (.cell (.hd t [])), z) := fun z hz => by
    unfold ownForm at hz
    split at hz
    · rename_i d e; simp only [opV, e]
    · cases hz
  have out : OutR P C m o y m → OutR P C m2 o y m2 := fun h => by
    simp only [OutR, hx, Bool.false_eq_true, if_false, OutR0, hop] at h ⊢
    obtain ⟨cs, g1, g2⟩ := h
    rw [val m h1] at g1
    simp only [Option.some.injEq, Prod.mk.injEq] at g1
    obtain ⟨rfl, rfl, -⟩ := g1
    exact ⟨[], val m2 h2, by simp⟩
  unfold StepR at h ⊢
  cases hgd : o.guard with
  | none =>
    simp only [hgd] at h ⊢
    exact out h
  | some gw =>
    obtain ⟨g, want⟩ := gw
    simp only [hgd] at h ⊢
    obtain ⟨u, hu, h⟩ := h
    have e : gt m2 u = gt m u := hg u (by simp [guardSl, hgd, hu])
    rcases h with ⟨g1, g2⟩ | ⟨g1, g2, g3⟩ | ⟨g1, g2, g3⟩
    · exact ⟨u, hu, .inl ⟨e.trans g1, out g2⟩⟩
    · exact ⟨u, hu, .inr (.inl ⟨e.trans g1, g2, by trivial⟩)⟩
    · exact ⟨u, hu, .inr (.inr ⟨e.trans g1, g2, by trivial⟩)⟩
theorem box_of {x : SV} (h : bxI x = true) : ∃ cs, x = .box cs := by
  cases x with
  | box cs => exact ⟨cs, rfl⟩
  | _ => simp [bxI, isBox] at h
/-- The address of a box. -/
theorem step_mvb {o : Oper} {m m2 : Sl} {y : SV} {t : Nat} {c1 c2 : List CV} (hop : o.op = .move (.tmp t)) (hx : isX C o = false) (h1 : gt m t = .box c1) (h2 : gt m2 t = .box c2)
    (hg : ∀ u ∈ guardSl ops o, gt m2 u = gt m u) (h : StepR P C ops o m y m) : StepR P C ops o m2 y m2 := by
  have val : ∀ (z : Sl) (cs : List CV), gt z t = .box cs → opV C.tb z o.type (.move (.tmp t)) = some ([], .ptr t [] 0, z) := fun z cs hz => by
    simp only [opV, hz, view]
  have out : OutR P C m o y m → OutR P C m2 o y m2 := fun h => by
    simp only [OutR, hx, Bool.false_eq_true, if_false, OutR0, hop] at h ⊢
    obtain ⟨cs, g1, g2⟩ := h
    rw [val m _ h1] at g1
    simp only [Option.some.injEq, Prod.mk.injEq] at g1
    obtain ⟨rfl, rfl, -⟩ := g1
    exact ⟨[], val m2 _ h2, by simp⟩
  unfold StepR at h ⊢
  cases hgd : o.guard with
  | none =>
    simp only [hgd] at h ⊢
    exact out h
  | some gw =>
    obtain ⟨g, want⟩ := gw
    simp only [hgd] at h ⊢
    obtain ⟨u, hu, h⟩ := h
    have e : gt m2 u = gt m u := hg u (by simp [guardSl, hgd, hu])
    rcases h with ⟨g1, g2⟩ | ⟨g1, g2, g3⟩ | ⟨g1, g2, g3⟩
    · exact ⟨u, hu, .inl ⟨e.trans g1, out g2⟩⟩
    · exact ⟨u, hu, .inr (.inl ⟨e.trans g1, g2, by trivial⟩)⟩
    · exact ⟨u, hu, .inr (.inr ⟨e.trans g1, g2, by trivial⟩)⟩
/-- The address of a field: the pointer alone is looked at. -/
theorem step_fld {o : Oper} {m m2 : Sl} {y : SV} {ty : TypeId} {ta f : Nat} (hop : o.op = .fieldAddr ty (.tmp ta) f) (hx : isX C o = false) (hv : view m2 ta = view m ta)
    (hg : ∀ u ∈ guardSl ops o, gt m2 u = gt m u) (h : StepR P C ops o m y m) : StepR P C ops o m2 y m2 := by
  have out : OutR P C m o y m → OutR P C m2 o y m2 := fun h => by
    simp only [OutR, hx, Bool.false_eq_true, if_false, OutR0, hop] at h ⊢
    obtain ⟨cs, g1, g2⟩ := h
    refine ⟨cs, ?_, g2⟩
    simp only [opV, opView, hv] at g1 ⊢
    split at g1
    · split at g1
      · rename_i e1 e2 hc
        simp only [Option.some.injEq, Prod.mk.injEq] at g1
        obtain ⟨rfl, rfl, -⟩ := g1
        rw [if_pos hc]
      · cases g1
    · split at g1
      · rename_i e1 e2 hc
        simp only [Option.some.injEq, Prod.mk.injEq] at g1
        obtain ⟨rfl, rfl, -⟩ := g1
        rw [if_pos hc]
      · cases g1
    · cases g1
  unfold StepR at h ⊢
  cases hgd : o.guard with
  | none =>
    simp only [hgd] at h ⊢
    exact out h
  | some gw =>
    obtain ⟨g, want⟩ := gw
    simp only [hgd] at h ⊢
    obtain ⟨u, hu, h⟩ := h
    have e : gt m2 u = gt m u := hg u (by simp [guardSl, hgd, hu])
    rcases h with ⟨g1, g2⟩ | ⟨g1, g2, g3⟩ | ⟨g1, g2, g3⟩
    · exact ⟨u, hu, .inl ⟨e.trans g1, out g2⟩⟩
    · exact ⟨u, hu, .inr (.inl ⟨e.trans g1, g2, by trivial⟩)⟩
    · exact ⟨u, hu, .inr (.inr ⟨e.trans g1, g2, by trivial⟩)⟩
/-- A header is loaded out of a box: the box's form alone is looked at. -/
theorem step_box {o : Oper} {m m2 : Sl} {y : SV} {ty : TypeId} {ta s j : Nat} (hop : o.op = .load ty (.tmp ta)) (hx : isX C o = false) (hz : (C.tb ty).zero.length = 1) (ha : gt m ta = .ptr s [] j) (ha2 : gt m2 ta = gt m ta)
    (h1 : boxF j (gt m s) = true) (h2 : boxF j (gt m2 s) = true) (hg : ∀ u ∈ guardSl ops o, gt m2 u = gt m u) (h : StepR P C ops o m y m) : StepR P C ops o m2 y m2 := by
  have val : ∀ (z : Sl), gt z ta = .ptr s [] j → boxF j (gt z s) = true → opV C.tb z o.type (.load ty (.tmp ta)) = ((wrapCs (C.tb ty).k [.hd s [j]]).map fun r => ([], .one r, z)) := fun z hz1 hz2 => by
    have hv : view z ta = .ptr s [] j := by unfold view; rw [hz1]
    simp only [opV, opView, hv, loadV]
    obtain ⟨z0, hz0⟩ : ∃ z0, (C.tb ty).zero = [z0] := by
      match hq : (C.tb ty).zero with
      | [z0] => exact ⟨z0, rfl⟩
      | [] => rw [hq] at hz; cases hz
      | _ :: _ :: _ => rw [hq] at hz; simp at hz
    have hc : loadC s [j] z0 (gt z s) = some ([], .hd s [j]) := by
      cases hgs : gt z s with
      | box bs =>
        rw [hgs] at hz2
        simp only [boxF, bxForm, boxForm] at hz2
        split at hz2
        case isFalse => simp at hz2
        have : ∃ d, bs.getD j .un = .own d := by
          rw [List.getD_eq_getElem?_getD, List.getElem?_map] at hz2
          rw [List.getD_eq_getElem?_getD]
          cases hb : bs[j]? with
          | none => rw [hb] at hz2; simp at hz2
          | some b =>
            rw [hb] at hz2
            cases b with
            | own d => exact ⟨d, rfl⟩
            | _ => simp [CV.isOwn] at hz2
        obtain ⟨d, hd⟩ := this
        simp only [loadC, getAt, hd]
      | _ => rw [hgs] at hz2; simp [boxF, bxForm, boxForm] at hz2
    rw [hz0]
    simp only [loadCs, List.nil_append, hc, List.append_nil]
    cases hw : wrapCs (C.tb ty).k [.hd s [j]] with
    | none => rfl
    | some r =>
      have hr : r = .cell (.hd s [j]) ∨ r = .agg [.hd s [j]] := by
        unfold wrapCs at hw
        split at hw
        · cases hw; exact .inr rfl
        · cases hw; exact .inr rfl
        · cases hw
        · cases hw; exact .inl rfl
      have : hdR (gt z s) [] r = r := by
        rcases hr with rfl | rfl
        · unfold hdR; split
          · rename_i e; cases e
          · rfl
        · unfold hdR; split
          · rename_i e; cases e
          · rfl
      simp only [Option.map_some, this]
  have out : OutR P C m o y m → OutR P C m2 o y m2 := fun h => by
    simp only [OutR, hx, Bool.false_eq_true, if_false, OutR0, hop] at h ⊢
    obtain ⟨cs, g1, g2⟩ := h
    rw [val m ha h1] at g1
    simp only [Option.map_eq_some_iff, Prod.mk.injEq] at g1
    obtain ⟨r, e1, rfl, rfl, -⟩ := g1
    exact ⟨[], by rw [val m2 (ha2.trans ha) h2, e1]; rfl, by simp⟩
  unfold StepR at h ⊢
  cases hgd : o.guard with
  | none =>
    simp only [hgd] at h ⊢
    exact out h
  | some gw =>
    obtain ⟨g, want⟩ := gw
    simp only [hgd] at h ⊢
    obtain ⟨u, hu, h⟩ := h
    have e : gt m2 u = gt m u := hg u (by simp [guardSl, hgd, hu])
    rcases h with ⟨g1, g2⟩ | ⟨g1, g2, g3⟩ | ⟨g1, g2, g3⟩
    · exact ⟨u, hu, .inl ⟨e.trans g1, out g2⟩⟩
    · exact ⟨u, hu, .inr (.inl ⟨e.trans g1, g2, by trivial⟩)⟩
    · exact ⟨u, hu, .inr (.inr ⟨e.trans g1, g2, by trivial⟩)⟩
end

variable {w0 : World} {F0 : List Nat} {ts0 : Array Value} {ops : Array Oper} {Q : Exit → Act → World → Prop}

theorem mrg_none {L : Nat → Bool} {sl0 : Sl} {us : List Ups} (h : ∀ i, i < us.length → L (c + i) = false) : mrg L sl0 us c = sl0 := by
  refine List.ext_getElem mrg_len fun t h1 h2 => ?_
  simp only [mrg, List.getElem_map, List.getElem_range]
  rw [mrgT_none us c _ fun i u hi _ => h i (List.getElem?_eq_some_iff.1 hi).1]
  simp [gt, h2]

theorem St.clean {sl : Sl} {a : Act} {w : World} (h : St C w0 F0 ts0 sl a w) {f : SV → SV} (hf : ∀ y, f y = y ∨ f y = .dead) : St C w0 F0 ts0 (sl.map f) a w := by
  obtain ⟨φ, fx, fv, h1, h2, h3⟩ := h
  refine ⟨φ, fx, fv, ⟨by simpa using h1.len, fun t x hx => ?_, h1.nd, h1.dj, h1.lt, h1.ext⟩, h2, h3⟩
  cases t with
  | none => exact h1.slot none x hx
  | some t =>
    simp only [sget, List.getElem?_map] at hx
    cases hz : sl[t]? with
    | none => rw [hz] at hx; cases hx
    | some z =>
      rw [hz] at hx
      simp only [Option.map_some, Option.some.injEq] at hx
      subst hx
      rcases hf z with e | e
      · rw [e]; exact h1.slot (some t) z hz
      · rw [e]; exact trivial

theorem drawnK_any (hT : TbOk P C.tb) (hM : Masks ops tab) {K' : Sl → Prop} (hK : ∀ sl', K' sl' → ∀ a' w', St C w0 F0 ts0 sl' a' w' → Q .normal a' w') : ∀ (ns : List Nat) (c : Nat) (sl : Sl),
    drawnK P C ops.toList tab wr ns c sl K' → ∀ fuel listed a w, listed.size = ops.size → (∀ j < ops.size, at' listed j = decide (j < c)) → cnt ops listed ≤ fuel → St C w0 F0 ts0 sl a w →
      wpAny P .any ops Q fuel listed a w
  | [], c, sl, h, fuel, listed, a, w, hs, hl, hcnt, hst => by
    simp only [drawnK] at h
    split at h
    · rename_i e
      have e : c = ops.size := by simpa using e
      refine wpAny_done ?_ (hK sl h a w hst) fuel
      cases hr : Region.ready .any ops listed with
      | nil => rfl
      | cons i r =>
        have hi : i ∈ Region.ready .any ops listed := by rw [hr]; exact List.mem_cons_self ..
        obtain ⟨h0, o, ho, -⟩ := mem_ready.1 hi
        have hil : i < ops.size := (Array.getElem?_eq_some_iff.1 ho).1
        have := hl i hil
        simp only [at', Array.getD_eq_getD_getElem?, hs, hil, Array.getElem?_eq_getElem, Option.getD_some] at this h0
        rw [this] at h0
        simp [e, hil] at h0
    · exact h.elim
  | n :: ns, c, sl, h, fuel, listed, a, w, hs, hl, hcnt, hst => by
    simp only [drawnK] at h
    split at h
    · rename_i hc
      simp only [Bool.and_eq_true] at hc
      obtain ⟨⟨hn0, hn⟩, hcut⟩ := hc
      have hn0 : 0 < n := Nat.le_of_ble_eq_true hn0
      have hn : c + n ≤ ops.size := by simpa using Nat.le_of_ble_eq_true hn
      have out : ∀ j, ops.size ≤ j → at' listed j = false := fun j hj => by simp [at', hs, hj]
      have pre : ∀ j < c, at' listed j = true := fun j hj => by rw [hl j (by omega)]; simp [hj]
      have post : ∀ j, c ≤ j → at' listed j = false := fun j hj => by
        rcases Nat.lt_or_ge j ops.size with h' | h'
        · rw [hl j h']; simp; omega
        · exact out j h'
      have closed : ∀ j, at' listed j = true → ∀ b, (tab.getD j 0).testBit b = true → at' listed b = true := fun j hj b hb => by
        have h1 := hM.back j b hb
        have h2 : j < c := by
          rcases Nat.lt_or_ge j c with h' | h'
          · exact h'
          · rw [post j h'] at hj; cases hj
        exact pre b (by omega)
      split at h
      · rename_i e1
        have e1 : n = 1 := by simpa using e1
        subst e1
        split at h
        · rename_i o ho
          have ho : ops[c]? = some o := by simpa using ho
          refine seg_abs hM hn hcut (fun L a w => if L c = true then ∃ sl', drawnK P C ops.toList tab wr ns (c + 1) sl' K' ∧ St C w0 F0 ts0 sl' a w else St C w0 F0 ts0 sl a w)
            (fun L L' a w hLL hS => ?_) (fun k o' L a w K h1 h2 ho' hLk _ _ hS hK' => ?_) (fun fuel listed a w hs hl hcnt hS => ?_) fuel listed a w hs pre (fun j hj => post j (by omega)) closed hcnt ?_
          · have := hLL c (Nat.le_refl _) (by omega)
            rw [← this]; exact hS
          · have e : k = c := by omega
            subst e
            rw [ho] at ho'
            cases ho'
            simp only [hLk, Bool.false_eq_true, if_false] at hS
            refine stepK_wp hT ho h hS fun sl' hsl' a' w' hst' => hK' a' w' ?_
            have : upd L k k = true := by simp [upd]
            simp only [this, if_true]
            exact ⟨sl', hsl', hst'⟩
          · have : (decide (c < c + 1)) = true := by simp
            simp only [this, if_true] at hS
            obtain ⟨sl', h1, h2⟩ := hS
            exact drawnK_any hT hM hK ns (c + 1) sl' h1 fuel listed a w hs hl hcnt h2
          · simp only [post c (Nat.le_refl _), Bool.false_eq_true, if_false]
            exact hst
        · exact h.elim
      · by_cases hp : detSeg tab ((ops.toList.drop c).take n) c = true
        · rw [if_pos hp] at h
          generalize hseg : (ops.toList.drop c).take n = seg at *
          have hlen : seg.length = n := by rw [← hseg]; simp; omega
          have segAt : ∀ i, i < n → seg[i]? = ops[c + i]? := fun i hi => by
            rw [← hseg]
            simp [hi]
          simp only [detSeg, Bool.and_eq_true] at hp
          obtain ⟨hp1, hp2, hp3⟩ := hp
          obtain ⟨us, ws, ts', w', sl', hrun, hnext, hst'⟩ := det_run hT seg c sl a w (fun j hj => (segAt j (by omega)).symm) hp1 h hst
          obtain ⟨hul, hwl⟩ := hrun.length
          have hord : ∀ (i : Nat) (o : Oper) (j : Nat) (o' : Oper) (q : Nat), seg[i]? = some o → seg[j]? = some o' → o.dst = some q → o'.dst = some q → j < i → (tab.getD (c + i) 0).testBit (c + j) = true :=
            fun i o j o' q hi hj hq hq' hlt => ordAll_spec (t := q) seg c i o j o' hp2 hi hj (by simp [tgts, wrS, hq]) (by simp [tgts, wrS, hq']) (by omega)
          have hheap : ∀ (i : Nat) (o : Oper) (j : Nat) (o' : Oper), seg[i]? = some o → seg[j]? = some o' → heapO o.op = true → heapO o'.op = true → j < i → (tab.getD (c + i) 0).testBit (c + j) = true :=
            fun i o j o' hi hj hh hh' hlt => heapB_spec seg c j o' ((detAll_spec seg c i o hp3 hi).2 hh) hj hh' (by omega)
          refine seg_abs hM hn hcut (fun L a' w2 => w2 = mrgW L w ws c ∧ a'.defers = a.defers ∧ a'.tmps.size = a.tmps.size ∧ ∀ q, valAt a'.tmps q = mrgV L a.tmps us c q)
            (fun L L' a' w2 hLL hS => ⟨hS.1.trans ?_, hS.2.1, hS.2.2.1, fun q => ?_⟩) (fun k o L a' w2 K h1 h2 ho hLk hcl hbits hS hK' => ?_) (fun fuel listed a' w2 hs hl hcnt hS => ?_) fuel listed a w hs pre (fun j hj => post j (by omega)) closed hcnt ⟨?_, rfl, rfl, fun q => ?_⟩
          · refine mrgT_congr _ _ _ fun i u hi _ => hLL _ (by omega) ?_
            have := (List.getElem?_eq_some_iff.1 hi).1
            omega
          · rw [hS.2.2.2 q]
            unfold mrgV
            split
            · refine mrgT_congr _ _ _ fun i u hi _ => hLL _ (by omega) ?_
              have := (List.getElem?_eq_some_iff.1 hi).1
              omega
            · rfl
          · obtain ⟨i, rfl⟩ : ∃ i, k = c + i := ⟨k - c, by omega⟩
            have g1 : seg[i]? = some o := by rw [segAt i (by omega)]; exact ho
            obtain ⟨e0, e1, e2, e3⟩ := hS
            obtain ⟨v, w1, m, k1, k2, k3, k4, k5⟩ := hrun.at c i o g1
            have look : ∀ t ∈ tmpsOf o, mrgV L a.tmps us c t = mrgV (fun j => decide (j < c + i)) a.tmps us c t := fun t ht => by
              unfold mrgV
              split
              · refine mrgT_congr _ _ _ fun i' u' hi' hs' => ?_
                have hil := (List.getElem?_eq_some_iff.1 hi').1
                rw [hul] at hil
                obtain ⟨v', _, _, -, m4, -, -, -⟩ := hrun.at c i' _ (List.getElem?_eq_getElem hil)
                rw [hi'] at m4
                have m4 : u' = upv seg[i'].dst v' := by simpa using m4
                subst m4
                have m1 := upv_some hs'
                rcases lookOk_spec seg c i' _ ((detAll_spec seg c i o hp3 g1).1 t ht) (List.getElem?_eq_getElem hil) (by simp [tgts, wrS, m1]) with e | ⟨e1, e2⟩ | ⟨e1, e2⟩
                · rw [e, hLk]; simp
                · rw [hbits _ e2]; simp [e1]
                · cases hL' : L (c + i') with
                  | false => simp; omega
                  | true => have := hcl _ hL' _ e2; rw [hLk] at this; cases this
              · rfl
            have hev : ∀ t ∈ tmpsOf o, valAt a'.tmps t = valAt m t := fun t ht => by rw [e3, look t ht, k5]
            obtain ⟨f1, f2⟩ := hrun.world hcl k3 hLk hbits
            have hdo : ∃ w3, doO P a'.eval o w2 = some (v, w3) ∧ w3 = mrgW (upd L (c + i)) w ws c := by
              rw [evT_eq, doO_congr k1 hev]
              cases hh : heapO o.op with
              | true =>
                obtain ⟨f3, f4⟩ := f1 hh hheap g1
                refine ⟨w1, ?_, f4.symm⟩
                rw [e0, f3]; exact k4
              | false =>
                refine ⟨w2, (doO_pure k1 hh k4).2 w2, ?_⟩
                rw [f2 hh]; exact e0
            obtain ⟨w3, hdo, e4⟩ := hdo
            refine doO_fwd ho k1 hdo (hK' _ _ ⟨e4, ?_, ?_, ?_⟩)
            · rw [put_eq]; exact e1
            · rw [put_eq]; exact (putV_size ..).trans e2
            · rw [put_eq]; exact hrun.next hord hcl k2 g1 hLk e2 e3
          · obtain ⟨e0, e1, e2, e3⟩ := hS
            obtain ⟨f1, f2, f3⟩ := hrun.fin
            have et : a'.tmps = ts' := by
              refine Array.ext (e2.trans f1.symm) fun q hq hq' => ?_
              have : valAt a'.tmps q = valAt ts' q := by rw [e3 q, f2 c q, hlen]
              simpa [valAt, Array.getD_eq_getD_getElem?, hq, hq'] using this
            have : a' = ⟨ts', a.defers⟩ := by cases a'; simp_all
            subst this
            have : w2 = w' := by rw [e0, f3 c, hlen]
            subst this
            exact drawnK_any hT hM hK ns (c + n) sl' hnext fuel listed _ _ hs hl hcnt hst'
          · exact (mrgW_none fun i _ => post _ (by omega)).symm
          · exact (mrgV_none fun i _ => post _ (by omega)).symm
        rw [if_neg hp] at h
        split at h
        · rename_i hord
          rw [forceL_eq] at h
          have hst : St C w0 F0 ts0 (cleanS wr (killsOf wr ((ops.toList.drop c).take n) c) sl) a w := hst.clean fun y => by split <;> simp
          generalize cleanS wr (killsOf wr ((ops.toList.drop c).take n) c) sl = sl at h hst
          split at h
          · rename_i hck
            simp only [Bool.and_eq_true] at hck
            obtain ⟨hroot, hkb⟩ := hck
            obtain ⟨us, sl', hrun, hnext⟩ := segK_run _ _ _ h
            generalize hseg : (ops.toList.drop c).take n = seg at *
            have hlen : seg.length = n := by rw [← hseg]; simp; omega
            have hul := hrun.length
            have hS : Seg tab wr seg c sl us := by
              refine ⟨hul, fun i u o t hi ho hs => hrun.tg i u o t hi ho hs, fun i o j o' t hi hj ht ht' hlt => ordAll_spec seg c i o j o' hord hi hj ht ht' (by omega), fun i o hi t ht x hx => ?_,
                fun i u x t hi hu ht => (hrun.facts i u x t hi hu ht).1, fun x hx => List.all_eq_true.1 hkb x hx, fun i u x t hi hu ht => (hrun.facts i u x t hi hu ht).2⟩
              have := List.all_eq_true.1 hroot t (killsOf_spec seg c i o hi ht)
              exact rooted_spec sl (by simpa using this) x hx
            have start : mrg (fun j => decide (j < c)) sl us c = sl := mrg_none fun i _ => by simp
            obtain ⟨hend, hall⟩ := hrun.states hM.back hS (Nat.le_refl c) (by simp) (by simp) start.symm
            have segAt : ∀ i, i < n → seg[i]? = ops[c + i]? := fun i hi => by
              rw [← hseg]
              simp [hi]
            refine seg_abs hM hn hcut (fun L a w => St C w0 F0 ts0 (mrg L sl us c) a w)
              (fun L L' a w hLL hS' => ?_) (fun k o L a w K h1 h2 ho hLk hcl hbits hS' hK' => ?_) (fun fuel listed a w hs hl hcnt hS' => ?_) fuel listed a w hs pre (fun j hj => post j (by omega)) closed hcnt ?_
            · have : mrg L sl us c = mrg L' sl us c := by
                unfold mrg
                refine List.map_congr_left fun t _ => mrgT_congr _ _ _ fun i u hi _ => hLL _ (by omega) ?_
                have := (List.getElem?_eq_some_iff.1 hi).1
                omega
              rw [← this]; exact hS'
            · obtain ⟨i, rfl⟩ : ∃ i, k = c + i := ⟨k - c, by omega⟩
              have hi : i < n := by omega
              have g1 : seg[i]? = some o := by rw [segAt i hi]; exact ho
              obtain ⟨u, hu⟩ : ∃ u, us[i]? = some u := ⟨_, List.getElem?_eq_getElem (by omega)⟩
              have look : ∀ t, lookOk tab wr (c + i) t seg c = true → gt (mrg L sl us c) t = gt (mrg (fun j => decide (j < c + i)) sl us c) t := fun t ht => by
                rw [gt_mrg, gt_mrg]
                split
                · refine mrgT_congr _ _ _ fun i' u' hi' hs' => ?_
                  obtain ⟨o', ho'⟩ := hS.at hi'
                  rcases lookOk_spec seg c i' o' ht ho' (hS.tg i' u' o' t hi' ho' hs') with e | ⟨e1, e2⟩ | ⟨e1, e2⟩
                  · rw [e, hLk]; simp
                  · rw [hbits _ e2]; simp [e1]
                  · cases hL' : L (c + i') with
                    | false => simp; omega
                    | true => have := hcl _ hL' _ e2; rw [hLk] at this; cases this
                · rfl
              rcases hall i o u hu g1 (by omega) with ⟨d, y, k1, k2, rfl, k4, k5, k6, k7⟩ | ⟨s, tv, sl1, cs, x, k1, k2, k3, k4, rfl, k6, k7, k8, k9, k10, k11, k12⟩ | ⟨s, u0, d, ty, cs, x, k1, k2, k3, rfl, k5, k6, k7, k8, k9, k10, k11, k12, k13, k14⟩ | ⟨s, tv, d, x, X, k1, k2, k3, k4, rfl, k6, k7⟩ | ⟨s, tv, d, x, k1, k2, k3, k4, rfl, k6, k7⟩
              · have hstep : StepR P C ops.toList o (mrg L sl us c) y (mrg L sl us c) := by
                  have hbx : ∀ {s : Nat}, s ∉ killsOf wr seg c → ∀ L1 L2, bxI (gt (mrg L1 sl us c) s) = bxI (gt (mrg L2 sl us c) s) := fun {s} hnk => by
                    have one : ∀ L', bxI (gt (mrg L' sl us c) s) = (decide (s < sl.length) && bxI (gt sl s)) := fun L' => by
                      rw [gt_mrg]
                      split
                      · rename_i htl
                        simp only [htl, decide_true, Bool.true_and]
                        rcases mrgT_cases (L := L') (t := s) us c (gt sl s) with e | ⟨i', u', x', e1, e2, e3, e4⟩
                        · rw [e]
                        · rw [e4]; exact hrun.isb hnk htl i' u' x' e1 e2
                      · rename_i htl; simp [htl, bxI, isBox]
                    intro L1 L2
                    rw [one, one]
                  have hin : ∀ {s : Nat}, s ∉ killsOf wr seg c → (∀ k tv, wr.lookup k = some (s, tv) → tv = [deepM]) → ∀ L1 L2, bxForm (gt (mrg L1 sl us c) s) = bxForm (gt (mrg L2 sl us c) s) := fun {s} hnk hdp => by
                    have one : ∀ L', bxForm (gt (mrg L' sl us c) s) = if s < sl.length then bxForm (gt sl s) else [] := fun L' => by
                      rw [gt_mrg]
                      split
                      · rename_i htl
                        rcases mrgT_cases (L := L') (t := s) us c (gt sl s) with e | ⟨i', u', x', e1, e2, e3, e4⟩
                        · rw [e]
                        · rw [e4]; exact hrun.bform hnk htl hdp i' u' x' e1 e2
                      · rfl
                    intro L1 L2
                    rw [one, one]
                  have all : (foot ops.toList o (mrg (fun j => decide (j < c + i)) sl us c)).all (fun t => lookOk tab wr (c + i) t seg c) = true → StepR P C ops.toList o (mrg L sl us c) y (mrg L sl us c) :=
                    fun hf => (step_loc k5 k7 fun t ht => look t (List.all_eq_true.1 hf t ht)).2
                  unfold footOk at k6
                  split at k6
                  · rename_i t hop
                    split at k6
                    · rename_i hc
                      simp only [Bool.and_eq_true, Bool.not_eq_true'] at hc k5
                      have hnk : t ∉ killsOf wr seg c := by simpa using hc.2
                      have hgd : ∀ u ∈ guardSl ops.toList o, gt (mrg L sl us c) u = gt (mrg (fun j => decide (j < c + i)) sl us c) u := fun u hu => look u (List.all_eq_true.1 k6 u hu)
                      rw [Bool.or_eq_true] at hc
                      rcases hc.1 with hc1 | hc1
                      · refine step_own hop (rdO_nc k5.2 (by rw [hop]; intro c h; cases h)) hc1 ?_ hgd k7
                        have hin : ∀ L', ownForm (gt (mrg L' sl us c) t) = (decide (t < sl.length) && ownForm (gt sl t)) := fun L' => by
                          rw [gt_mrg]
                          split
                          · rename_i htl
                            simp only [htl, decide_true, Bool.true_and]
                            rcases mrgT_cases (L := L') (t := t) us c (gt sl t) with e | ⟨j, u', x', e1, e2, e3, e4⟩
                            · rw [e]
                            · rw [e4]; exact hrun.form hnk htl j u' x' e1 e2
                          · rename_i htl; simp [htl, ownForm]
                        rw [hin L, ← hin (fun j => decide (j < c + i))]
                        exact hc1
                      · obtain ⟨b1, q1⟩ := box_of hc1
                        obtain ⟨b2, q2⟩ := box_of ((hbx hnk L (fun j => decide (j < c + i))).trans hc1)
                        exact step_mvb hop (rdO_nc k5.2 (by rw [hop]; intro c h; cases h)) q1 q2 hgd k7
                    · exact all k6
                  · rename_i ty ta hop
                    simp only [Bool.or_eq_true] at k6
                    rcases k6 with k6 | k6
                    · split at k6
                      · rename_i s j hta
                        simp only [Bool.and_eq_true, Bool.not_eq_true', beq_iff_eq] at k6 k5
                        obtain ⟨⟨⟨⟨f1, f2⟩, f3⟩, f4⟩, f5⟩ := k6
                        have hnk : s ∉ killsOf wr seg c := by simpa using f3
                        have hdp : ∀ k tv, wr.lookup k = some (s, tv) → tv = [deepM] := fun k tv hk => by
                          have := List.all_eq_true.1 f4 _ (lookup_mem hk)
                          simpa using this
                        refine step_box hop (rdO_nc k5.2 (by rw [hop]; intro c h; cases h)) f2 hta (look ta (List.all_eq_true.1 f5 ta (by simp))) f1 (by simp only [boxF, hin hnk hdp L (fun j => decide (j < c + i))]; exact f1) (fun u hu => look u (List.all_eq_true.1 f5 u (by simp [hu]))) k7
                      · cases k6
                    · exact all k6
                  · rename_i ty ta fl hop
                    simp only [Bool.and_eq_true] at k5
                    simp only [Bool.or_eq_true] at k6
                    rcases k6 with k6 | k6
                    · split at k6
                      · rename_i s q j hta
                        have hta2 := look ta (List.all_eq_true.1 k6 ta (by simp))
                        exact step_fld hop (rdO_nc k5.2 (by rw [hop]; intro c h; cases h)) (by unfold view; rw [hta2, hta]) (fun u hu => look u (List.all_eq_true.1 k6 u (by simp [hu]))) k7
                      · rename_i cs hta
                        simp only [Bool.and_eq_true, Bool.not_eq_true'] at k6
                        obtain ⟨⟨f1, f3⟩, f5⟩ := k6
                        obtain ⟨cs', q2⟩ := box_of (show bxI (gt (mrg L sl us c) ta) = true by rw [hbx (by simpa using f3) L (fun j => decide (j < c + i)), hta]; exact f1)
                        exact step_fld hop (rdO_nc k5.2 (by rw [hop]; intro c h; cases h)) (by unfold view; rw [q2, hta]) (fun u hu => look u (List.all_eq_true.1 f5 u hu)) k7
                      · cases k6
                    · exact all k6
                  · exact all k6
                refine step_wp hT ho hstep k4 hS' fun a' w' hst' => hK' a' w' ?_
                rw [k2] at hst'
                rwa [hS.put hcl hu g1 k2 hLk] at hst'
              · have hm : ∀ t ∈ foot ops.toList o (mrg (fun j => decide (j < c + i)) sl us c), gt (mrg L sl us c) t = gt (mrg (fun j => decide (j < c + i)) sl us c) t := fun t ht => look t (k8 t (List.mem_append_left _ ht))
                have hop := hS.store (C := C) hcl hu g1 k1 hLk k6 k10 k7 k9 mrg_len (fun x hx t ht => by
                  have ht' : t ∈ tmpsOf o := List.mem_filterMap.2 ⟨x, by simpa using hx, by rw [ht]⟩
                  exact ⟨hm t (by simp [foot, ht']), fun r hr => hm r (List.mem_append_right _ (List.mem_append_right _ (List.mem_flatMap.2 ⟨t, ht', hr⟩)))⟩) (look s (k8 s (by simp)))
                obtain ⟨t, a0, x0, hst⟩ := storeT_op k6
                have hstep : StepR P C ops.toList o (mrg L sl us c) .und (mrg (upd L (c + i)) sl us c) := by
                  simp only [StepR, k4, OutR, k2, Bool.false_eq_true, if_false, OutR0, hst]
                  rw [hst] at hop
                  exact ⟨cs, hop, k11⟩
                refine step_wp hT ho hstep (fun t _ => by rw [k3]; simp) hS' fun a' w' hst' => hK' a' w' ?_
                rw [k3] at hst'
                exact hst'
              · have hm : ∀ t ∈ foot ops.toList o (mrg (fun j => decide (j < c + i)) sl us c), gt (mrg L sl us c) t = gt (mrg (fun j => decide (j < c + i)) sl us c) t := fun t ht => look t (k10 t (List.mem_append_left _ ht))
                obtain ⟨c0, e1, e2, e3, e4⟩ := k2.op
                have hu0 : Operand.tmp u0 ∈ o.op.operands := by
                  have : Operand.tmp u0 ∈ c0.args := by rw [← Array.mem_toList_iff, e3]; simp
                  rw [e1]
                  simp only [Op.operands, Call.operands, e2]
                  simp [this]
                have ht' : u0 ∈ tmpsOf o := List.mem_filterMap.2 ⟨_, by simpa using hu0, rfl⟩
                have hclean := hS.clean hcl g1 hLk
                have hsk : s ∈ kills wr (c + i) o := by simp [kills, wrK, k1]
                obtain ⟨-, -, hap⟩ := app_loc (sl2 := mrg L sl us c) k12 k5 k6 k7 k11 (fun y hy => (hclean y hy).2 s hsk) (look s (k10 s (by simp))) fun t ht => by
                  cases ht
                  exact ⟨hm u0 (by simp [foot, ht']), fun r hr => hm r (List.mem_append_right _ (List.mem_append_right _ (List.mem_flatMap.2 ⟨u0, ht', hr⟩)))⟩
                have hstep : StepR P C ops.toList o (mrg L sl us c) x ((mrg L sl us c).set s .dead) := by
                  simp only [StepR, k2.guard, OutR, k2.x, if_true, OutX, e1, e2]
                  exact ⟨ty, .tmp s, .tmp u0, cs, e4, e3, by rw [grab_own (by rw [look s (k10 s (by simp))]; exact k5)]; exact hap, k13⟩
                refine step_wp hT ho hstep k3 hS' fun a' w' hst' => hK' a' w' ?_
                rw [k2.dst] at hst'
                rwa [hS.app hcl hu g1 k1 k2.dst k8 k14 hLk (by rw [mrg_len] at k9; exact k9)] at hst'
              · have hclean := hS.clean hcl g1 hLk
                have hstep := k7 (mrg L sl us c) (by rw [mrg_len, mrg_len]) (fun t ht => look t (k6 t ht)) fun y hy => ⟨kBs_at (hclean y hy).1 k1, fun t ht => (hclean y hy).2 t (by simp [kills, wrK, k1, ht])⟩
                refine step_wp hT ho hstep k3 hS' fun a' w' hst' => hK' a' w' ?_
                rw [k2] at hst'
                rwa [hS.gen hcl hu g1 k2 k4 hLk] at hst'
              · have hclean := hS.clean hcl g1 hLk
                have hstep := k7 (mrg L sl us c) (by rw [mrg_len, mrg_len]) (fun t ht => look t (k6 t ht)) fun y hy t ht => (hclean y hy).2 t (by simp [kills, wrK, k1, ht])
                refine step_wp hT ho hstep k3 hS' fun a' w' hst' => hK' a' w' ?_
                rw [k2] at hst'
                rwa [hS.gl hcl hu g1 k2 k4 hLk] at hst'
            · have e : mrg (fun j => decide (j < c + n)) sl us c = sl' := by rw [hend, hlen]
              rw [e] at hS'
              exact drawnK_any hT hM hK ns (c + n) sl' hnext fuel listed a w hs hl hcnt hS'
            · rw [mrg_none fun i _ => post _ (by omega)]
              exact hst
          · exact h.elim
        · exact h.elim
    · exact h.elim

theorem drawn1_any (hT : TbOk P C.tb) {id : Nat} {K' : Sl → Prop} {sl : Sl} {a : Act} {w : World} (hk : drawnR1 P C id ops.toList (maskTab ops.toList []) sl K')
    (h : St C w0 F0 ts0 sl a w) (hK : ∀ sl', K' sl' → ∀ a' w', St C w0 F0 ts0 sl' a' w' → Q .normal a' w') : wpAny P .any ops Q ops.size (Array.replicate ops.size false) a { w with drawn := w.drawn + 1 } := by
  unfold drawnR1 at hk
  split at hk
  · rename_i hb
    refine drawnK_any hT (masks hb) hK _ 0 sl hk ops.size _ a _ (by simp) (fun j hj => by simp [at', hj]) ?_ ?_
    · unfold cnt
      exact Nat.le_trans (List.length_filter_le ..) (by simp)
    · obtain ⟨φ, fx, fv, h1, h2, h3⟩ := h
      exact ⟨φ, fx, fv, h1.extend ⟨rfl, rfl, rfl, Nat.le_refl _, fun _ _ _ => rfl⟩, h2, h3⟩
  · exact hk.elim
theorem drawn_wp (hT : TbOk P C.tb) (hm : P.follows .mixedOrders = true) {id : Nat} {K' : Sl → Prop} {sl : Sl} {a : Act} {w : World} (hk : drawnR P C id ops.toList (maskTab ops.toList []) sl K')
    (h : St C w0 F0 ts0 sl a w) (hK : ∀ sl', K' sl' → ∀ a' w', St C w0 F0 ts0 sl' a' w' → Q .normal a' w') : (Code.region id ops true).wp P Q a w := by
  refine wp_region_any hm ?_
  unfold drawnR at hk
  split at hk
  · split at hk
    · rename_i hb
      rw [Bool.and_eq_true] at hb
      have hA : Added ops (strong ops.toList (maskTab ops.toList []) ops.toList 0).toArray (maskTab ops.toList []) := strong_added
      have hsel : ∀ (j : Nat) (o : Oper) cs b, ops[j]? = some o → o.op ≠ .select cs b := fun j o cs b ho e => by
        have := List.all_eq_true.1 hb.2 o (by simpa using Array.mem_of_getElem? ho)
        simp [noSel, e] at this
      refine wpAny_monoQ (Q := fun e a w => e = .normal ∧ Q .normal a w) (fun e a w h => by obtain ⟨rfl, h⟩ := h; exact h) _ _ _ _
        (hA.any (masks hb.1) hsel (fun _ _ _ h => by cases h.1) (fun ⟨_, _, h⟩ => by cases h.1) _ _ _ _ (by simp) (fun j hj => by simp only [at', Array.getD_eq_getD_getElem?, Array.getElem?_replicate] at hj; split at hj <;> cases hj) ?_)
      have := drawn1_any (ops := (strong ops.toList (maskTab ops.toList []) ops.toList 0).toArray) (Q := fun e a w => e = .normal ∧ Q .normal a w) hT hk h fun sl' h1 a' w' h2 => ⟨rfl, hK sl' h1 a' w' h2⟩
      rwa [hA.size] at this
    · exact hk.elim
  · exact drawn1_any hT hk h hK
end
end Go.Proofs.Ytlffmhhdgedddaa.DL

/- The data level, part 22: code. -/
namespace Go.Proofs.Ytlffmhhdgedddaa.DL
open Go Go.RowKit

theorem RelW.weak {φ : Option Nat → List Nat} {w0 w : World} {F0 : List Nat} {sl sl' : Sl} {fx : SV} {ts : Array Value} {fv : Value} (h : RelW φ w0 F0 sl fx ts fv w) (hl : sl'.length = sl.length)
    (hs : ∀ t, gt sl' t = gt sl t ∨ gt sl' t = .dead) : RelW φ w0 F0 sl' fx ts fv w := by
  refine ⟨h.len.trans hl.symm, fun t x hx => ?_, h.nd, h.dj, h.lt, h.ext⟩
  cases t with
  | none => exact h.slot none x hx
  | some t =>
    have e : gt sl' t = x := by
      simp only [sget] at hx
      simp [gt, hx]
    rcases hs t with g | g
    · rw [← e, g]; exact gt_rel h t
    · rw [← e, g]; exact trivial

theorem allCs_at : ∀ (zs : List CV) (I : InvT zs) (cs : List CV) (n : Nat) (K : List CV → Prop), appI zs I cs n → allCs zs K → K cs
  | [], I, [], n, K, _, h => h
  | [], I, c :: cs, n, K, hI, _ => by simp [appI] at hI
  | z :: zs, I, [], n, K, hI, _ => by
    cases z with
    | sc v => cases v <;> simp [appI] at hI
    | rd d => cases d <;> simp [appI] at hI
    | own d => cases d <;> simp [appI] at hI
    | _ => simp [appI] at hI
  | z :: zs, I, c :: cs, n, K, hI, h => by
    cases z with
    | sc v =>
      cases v with
      | int k m =>
        cases c with
        | sc u =>
          cases u with
          | int k' m' =>
            simp only [appI] at hI
            split at hI
            · rename_i e
              have e := sameK_eq e
              subst e
              exact allCs_at zs (I m') cs n _ hI (h m')
            · exact hI.elim
          | _ => simp [appI] at hI
        | _ => simp [appI] at hI
      | bool b =>
        cases c with
        | sc u =>
          cases u with
          | bool b' =>
            simp only [appI] at hI
            cases b' with
            | true => exact allCs_at zs (I true) cs n _ hI h.1
            | false => exact allCs_at zs (I false) cs n _ hI h.2
          | _ => simp [appI] at hI
        | _ => simp [appI] at hI
      | string b =>
        cases c with
        | sc u =>
          cases u with
          | string b' =>
            simp only [appI] at hI
            exact allCs_at zs (I b') cs n _ hI (h b')
          | _ => simp [appI] at hI
        | _ => simp [appI] at hI
      | _ => cases c <;> simp [appI] at hI
    | rd d =>
      cases d with
      | sl sz es =>
        cases c with
        | rd d' =>
          cases d' with
          | sl sz' es' =>
            simp only [appI] at hI
            split at hI
            · rename_i e
              have e : sz = sz' := by simpa using e
              subst e
              exact allCs_at zs (I es') cs n _ hI (h es')
            · exact hI.elim
          | _ => simp [appI] at hI
        | _ => simp [appI] at hI
      | _ => cases c <;> simp [appI] at hI
    | own d =>
      cases d with
      | sl sz es =>
        cases c with
        | own d' =>
          cases d' with
          | sl sz' es' =>
            simp only [appI] at hI
            split at hI
            · rename_i e
              have e : sz = sz' := by simpa using e
              subst e
              exact allCs_at zs (I es') cs n _ hI (h es')
            · exact hI.elim
          | _ => simp [appI] at hI
        | _ => simp [appI] at hI
      | _ => cases c <;> simp [appI] at hI
    | vl u d =>
      cases c with
      | vl u' d' =>
        simp only [appI] at hI
        obtain ⟨rfl, rfl, hI⟩ := hI
        exact allCs_at zs I cs n _ hI h
      | _ => simp [appI] at hI
    | _ => cases c <;> simp [appI] at hI

theorem shape_len {x y : SV} (h : shapeB x y = true) : (svCells y).length = (svCells x).length ∧ svMk x (svCells y) = y := by
  cases x with
  | one r => cases r with
    | cell c => cases y with
      | one s => cases s with
        | cell d => exact ⟨rfl, rfl⟩
        | agg d => cases h
      | _ => cases h
    | agg c => cases y with
      | one s => cases s with
        | cell d => cases h
        | agg d => exact ⟨(by simpa [shapeB] using h : c.length = d.length).symm, rfl⟩
      | _ => cases h
  | box c => cases y with
    | box d => exact ⟨(by simpa [shapeB] using h : c.length = d.length).symm, rfl⟩
    | _ => cases h
  | _ => cases h

theorem cutHv_pick {sl sl' : Sl} : ∀ hv : List Nat, (∀ t ∈ hv, shapeB (gt sl t) (gt sl' t) = true) → cutHv sl hv (pickHv sl' hv) = hv.map fun t => (t, gt sl' t)
  | [], _ => rfl
  | t :: ts, h => by
    obtain ⟨h1, h2⟩ := shape_len (h t (List.mem_cons_self ..))
    simp only [cutHv, pickHv, List.flatMap_cons, List.map_cons, ← h1, List.take_left, List.drop_left, h2]
    rw [show List.flatMap (fun t => svCells (gt sl' t)) ts = pickHv sl' ts from rfl, cutHv_pick ts fun t ht => h t (List.mem_cons_of_mem _ ht)]

theorem lookup_map {g : Nat → SV} {i : Nat} : ∀ hv : List Nat, (hv.map fun t => (t, g t)).lookup i = if i ∈ hv then some (g i) else none
  | [] => rfl
  | t :: ts => by
    simp only [List.map_cons, List.lookup_cons, lookup_map ts, List.mem_cons]
    by_cases e : i = t
    · subst e; simp
    · have : (i == t) = false := by simpa using e
      rw [this]; simp [e]

theorem fillS_at {keep : List Nat} {hv : List (Nat × SV)} : ∀ (sl : Sl) (i : Nat), (fillS keep i sl hv).length = sl.length ∧ ∀ (j : Nat) (x : SV), sl[j]? = some x →
    (fillS keep i sl hv)[j]? = some (match hv.lookup (i + j) with
      | some y => y
      | none => if keep.contains (i + j) then x else .dead)
  | [], _ => ⟨rfl, fun j x h => by simp at h⟩
  | y :: sl, i => by
    obtain ⟨h1, h2⟩ := fillS_at (keep := keep) (hv := hv) sl (i + 1)
    refine ⟨by simp [fillS, h1], fun j x h => ?_⟩
    cases j with
    | zero =>
      simp only [List.getElem?_cons_zero, Option.some.injEq] at h
      subst h
      rfl
    | succ j =>
      have := h2 j x (by simpa using h)
      simp only [fillS, List.getElem?_cons_succ]
      rw [this, show i + 1 + j = i + (j + 1) by omega]

theorem sameS_spec {sl sl' : Sl} : ∀ keep : List Nat, sameS sl sl' keep → ∀ t ∈ keep, gt sl' t = gt sl t
  | [], _, t, ht => by cases ht
  | [a], h, t, ht => by
    have : t = a := by simpa using ht
    subst this; exact h
  | a :: b :: r, h, t, ht => by
    rcases List.mem_cons.1 ht with rfl | ht
    · exact h.1
    · exact sameS_spec (b :: r) h.2 t ht
theorem sameS_refl {sl : Sl} : ∀ keep : List Nat, sameS sl sl keep
  | [] => trivial
  | [_] => rfl
  | _ :: b :: r => ⟨rfl, sameS_refl (b :: r)⟩

section
variable {P : Program} {C : Cfg} {w0 : World} {F0 : List Nat} {ts0 : Array Value}

theorem fill_st {sl sl' : Sl} {hv keep : List Nat} {a : Act} {w : World} (h : St C w0 F0 ts0 sl' a w) (hl : ts0.size = sl.length) (hsh : ∀ t ∈ hv, shapeB (gt sl t) (gt sl' t) = true)
    (hk : ∀ t ∈ keep, gt sl' t = gt sl t) : St C w0 F0 ts0 (fillS keep 0 sl (cutHv sl hv (pickHv sl' hv))) a w := by
  obtain ⟨φ, fx, fv, h1, h2, h3⟩ := h
  obtain ⟨g1, g2⟩ := fillS_at (keep := keep) (hv := cutHv sl hv (pickHv sl' hv)) sl 0
  have len : sl'.length = sl.length := by rw [← h1.len, h3.1, hl]
  refine ⟨φ, fx, fv, h1.weak (g1.trans len.symm) fun t => ?_, h2, h3⟩
  cases hx : sl[t]? with
  | none =>
    right
    have : sl.length ≤ t := by
      rcases Nat.lt_or_ge t sl.length with h | h
      · simp [List.getElem?_eq_getElem h] at hx
      · exact h
    simp [gt, List.getElem?_eq_none (by omega : (fillS keep 0 sl (cutHv sl hv (pickHv sl' hv))).length ≤ t)]
  | some x =>
    have := g2 t x hx
    rw [cutHv_pick hv hsh, Nat.zero_add, lookup_map] at this
    unfold gt at *
    simp only [List.getD_eq_getElem?_getD] at *
    rw [cutHv_pick (sl := sl) (sl' := sl') hv (by simpa [gt] using hsh)]
    simp only [gt, List.getD_eq_getElem?_getD]
    rw [this]
    by_cases hm : t ∈ hv
    · left; simp [hm]
    · by_cases hkm : t ∈ keep
      · left
        have e := hk t hkm
        rw [hx] at e
        simp only [Option.getD_some] at e
        simp [hm, hkm, e]
      · right; simp [hm, hkm]

theorem dwp_sound (hT : TbOk P C.tb) (hm : P.follows .mixedOrders = true) : ∀ (c : Code) (Qd : Ex → Sl → Prop) (Q : Exit → Act → World → Prop) (sl : Sl) (a : Act) (w : World),
    dwp P C c Qd sl → St C w0 F0 ts0 sl a w → (∀ e sl', Qd e sl' → ∀ a' w', St C w0 F0 ts0 sl' a' w' → Q e.toExit a' w') → c.wp P Q a w
  | .skip, Qd, Q, sl, a, w, hk, h, hQ => wp_skip (hQ .normal sl hk a w h)
  | .region _ ops false, Qd, Q, sl, a, w, hk, h, hQ => region_wp hT hk h fun sl' => hQ .normal sl'
  | .region _ ops true, Qd, Q, sl, a, w, hk, h, hQ => drawn_wp hT hm hk h fun sl' => hQ .normal sl'
  | .seq x y, Qd, Q, sl, a, w, hk, h, hQ => wp_seq (dwp_sound hT hm x _ _ sl a w hk h fun e sl' hk' a' w' h' => by
      cases e with
      | normal => exact dwp_sound hT hm y Qd Q sl' a' w' hk' h' hQ
      | exit id => exact hQ (.exit id) sl' hk' a' w' h'
      | ret => exact hQ .ret sl' hk' a' w' h')
  | .cond c x y, Qd, Q, sl, a, w, hk, h, hQ => by
    simp only [dwp] at hk
    have val : ∀ b, opView C.tb 0 sl c = some (.one (.cell (.sc (.bool b)))) → a.eval c = .bool b := fun b hb => by
      obtain ⟨φ, fx, fv, h1, -, -⟩ := h
      obtain ⟨g1, -, -⟩ := opView_rel (ds := a.defers) h1 hb rfl
      exact g1
    split at hk
    · rename_i t e
      cases t with
      | true =>
        replace hk : dwp P C x Qd sl := by
          split at hk <;> exact hk
        exact wp_cond_true (val _ e) (dwp_sound hT hm x Qd Q sl a w hk h hQ)
      | false =>
        replace hk : dwp P C y Qd sl := by
          split at hk <;> exact hk
        exact wp_cond_false (val _ e) (dwp_sound hT hm y Qd Q sl a w hk h hQ)
    · rename_i es e
      have val2 : ∃ b, a.eval c = .bool b ∧ (b = true → es = []) := by
        obtain ⟨φ, fx, fv, h1, -, -⟩ := h
        exact (opView_rel (ds := a.defers) h1 e rfl).2
      obtain ⟨b, hb, hes⟩ := val2
      cases b with
      | true => exact wp_cond_true hb (dwp_sound hT hm x Qd Q sl a w (hk.1 (hes rfl)) h hQ)
      | false => exact wp_cond_false hb (dwp_sound hT hm y Qd Q sl a w hk.2 h hQ)
    · exact hk.elim
  | .block id c, Qd, Q, sl, a, w, hk, h, hQ => wp_block (dwp_sound hT hm c _ _ sl a w hk h fun e sl' hk' a' w' h' => by
      cases e with
      | normal => exact hQ .normal sl' hk' a' w' h'
      | exit id' =>
        simp only [blockK] at hk'
        show Exit.inBlock id Q (.exit id') a' w'
        simp only [Exit.inBlock]
        split
        · rename_i e; rw [if_pos e] at hk'; exact hQ .normal sl' hk' a' w' h'
        · rename_i e; rw [if_neg e] at hk'; exact hQ (.exit id') sl' hk' a' w' h'
      | ret => exact hQ .ret sl' hk' a' w' h')
  | .loop c, Qd, Q, sl, a, w, hk, h, hQ => by
    simp only [dwp] at hk
    split at hk
    · rename_i hsh
      rw [forceCs_eq] at hk
      obtain ⟨I, ⟨n, hn⟩, hround⟩ := hk
      generalize hhv : (C.ann (firstR c)).1 = hv at *
      generalize hkp : (C.ann (firstR c)).2 = keep at *
      have hl : ts0.size = sl.length := by
        obtain ⟨φ, fx, fv, h1, -, h3⟩ := h
        rw [← h1.len, h3.1]
      refine wp_loop_ghost (fun n a w => ∃ sl', (∀ t ∈ hv, shapeB (gt sl t) (gt sl' t) = true) ∧ sameS sl sl' keep ∧ appI (pickHv sl hv) I (pickHv sl' hv) n ∧ St C w0 F0 ts0 sl' a w) n
        ⟨sl, List.all_eq_true.1 hsh, sameS_refl keep, hn, h⟩ fun n a w ⟨sl', g1, g2, g3, g4⟩ => ?_
      have := allCs_at _ I _ n _ g3 hround n g3
      rw [forceL_eq] at this
      refine dwp_sound hT hm c _ _ _ a w this (fill_st g4 hl g1 (sameS_spec keep g2)) fun e sl2 hk' a' w' h' => ?_
      cases e with
      | normal =>
        simp only [thenK] at hk'
        split at hk'
        · rename_i hsh'
          obtain ⟨k1, m, hm', k2⟩ := hk'
          rw [forceCs_eq] at k2
          exact ⟨m, hm', sl2, List.all_eq_true.1 hsh', k1, k2, h'⟩
        · exact hk'.elim
      | exit id => exact hQ (.exit id) sl2 hk' a' w' h'
      | ret => exact hQ .ret sl2 hk' a' w' h'
    · exact hk.elim
  | .exit id, Qd, Q, sl, a, w, hk, h, hQ => wp_exit (hQ (.exit id) sl hk a w h)
  | .ret, Qd, Q, sl, a, w, hk, h, hQ => wp_ret (hQ .ret sl hk a w h)
  | .goto l, Qd, Q, sl, a, w, hk, h, hQ => by cases hk
  | .label l, Qd, Q, sl, a, w, hk, h, hQ => by cases hk
  | .scope c, Qd, Q, sl, a, w, hk, h, hQ => by cases hk
  | .refuse .., Qd, Q, sl, a, w, hk, h, hQ => by cases hk
end
end Go.Proofs.Ytlffmhhdgedddaa.DL
