/- The data level, part 17: a step of a region; regions whose order is fixed. -/
import Derived.Test.YtbmflnlppnkbaaaL16a
namespace Go.Proofs.Ytbmflnlppnkbaaa.DL
open Go Go.RowKit

/-- A step with its guard. -/
def StepR (P : Program) (C : Cfg) (ops : List Oper) (o : Oper) (sl : Sl) (x : SV) (sl' : Sl) : Prop :=
  match o.guard with
  | none => OutR P C sl o x sl'
  | some (g, want) => ∃ t, guardT ops g = some t ∧ ((gt sl t = .one (.cell (.sc (.bool want))) ∧ OutR P C sl o x sl') ∨
      (gt sl t = .one (.cell (.sc (.bool !want))) ∧ x = .und ∧ sl' = sl) ∨ (gt sl t = .und ∧ x = .und ∧ sl' = sl))

section
variable {P : Program} {C : Cfg} {sl : Sl} {o : Oper} {K : Sl → Prop} {ops : List Oper}

theorem stepK_step (h : stepK P C ops o sl K) : ∃ x sl', StepR P C ops o sl x sl' ∧ putK C.pin sl' o.dst x K := by
  unfold stepK at h
  unfold StepR
  split at h
  · rename_i hg
    simp only [hg]
    exact opK_out h
  · rename_i g want hg
    simp only [hg]
    split at h
    · rename_i t ht
      split at h
      · rename_i b hb
        split at h
        · rename_i e
          subst e
          obtain ⟨x, sl', h1, h2⟩ := opK_out h
          exact ⟨x, sl', ⟨t, ht, .inl ⟨hb, h1⟩⟩, h2⟩
        · rename_i e
          refine ⟨.und, sl, ⟨t, ht, .inr (.inl ⟨?_, rfl, rfl⟩)⟩, h⟩
          rw [hb]
          cases b <;> cases want <;> first | rfl | exact absurd rfl e
      · rename_i hb
        exact ⟨.und, sl, ⟨t, ht, .inr (.inr ⟨hb, rfl, rfl⟩)⟩, h⟩
      · exact h.elim
    · exact h.elim
end

section
variable {P : Program} {C : Cfg} {w0 : World} {F0 : List Nat} {ts0 : Array Value} {sl : Sl} {ops : Array Oper} {o : Oper} {Q : Exit → Act → World → Prop} {K : Act → World → Prop}

theorem bool_ne_undef (b : Bool) : Value.bool b ≠ undef := by simp [undef]

/-- One step, as the walk wants it. -/
theorem step_wp (hT : TbOk P C.tb) {i : Nat} {x : SV} {sl' : Sl} {a : Act} {w : World} (hi : ops[i]? = some o) (hs : StepR P C ops.toList o sl x sl')
    (hpin : ∀ t ∈ C.pin, o.dst ≠ some t) (h : St C w0 F0 ts0 sl a w) (hK : ∀ a' w', St C w0 F0 ts0 (put sl' o.dst x) a' w' → K a' w') : wpOp P ops Q i K a w := by
  obtain ⟨φ, fx, fv, hr, hd, hp⟩ := h
  have done : ∀ v w' φ', RelW φ' w0 F0 sl' x a.tmps v w' → K (a.put o.dst v) w' := fun v w' φ' h' => by
    refine hK _ _ ?_
    cases ho : o.dst with
    | none => exact ⟨φ', x, v, h', hd, hp⟩
    | some d =>
      obtain ⟨φ2, h2⟩ := h'.land d
      exact ⟨φ2, .dead, v, h2, hd, hp.put fun t ht e => hpin t ht (by rw [ho, e])⟩
  obtain ⟨ts, ds⟩ := a
  have go : OutR P C sl o x sl' → Oper.wp P o ⟨ts, ds⟩ w K Q := fun ho => out_wp hT ho hr done
  have skip : x = .und → sl' = sl → K (Act.put ⟨ts, ds⟩ o.dst undef) w := fun e1 e2 => by
    subst e1 e2
    exact done undef w _ (hr.see rfl)
  unfold wpOp
  rw [hi]
  unfold StepR at hs
  cases hg : o.guard with
  | none =>
    simp only [hg] at hs
    have : Region.wanted o (yielded ops ts) = true := by simp [Region.wanted, hg]
    simp only [this, if_true]
    exact .inl (go hs)
  | some gw =>
    obtain ⟨g, want⟩ := gw
    simp only [hg] at hs
    obtain ⟨t, ht, hs⟩ := hs
    have ht' : (ops[g]?).bind (·.dst) = some t := by simpa [guardT] using ht
    have val : ∀ b, gt sl t = .one (.cell (.sc (.bool b))) → yielded ops ts g = some b := fun b hb => by
      have hrel := gt_rel hr t
      rw [hb] at hrel
      obtain ⟨e, -, -⟩ := hrel
      unfold yielded
      rw [ht']
      simp only [Option.bind_some]
      unfold valAt at e
      cases hv : ts[t]? with
      | none => simp [Array.getD_eq_getD_getElem?, hv, undef] at e
      | some v => simp only [Array.getD_eq_getD_getElem?, hv, Option.getD_some] at e; rw [e]
    rcases hs with ⟨h1, h2⟩ | ⟨h1, h2, h3⟩ | ⟨h1, h2, h3⟩
    · have : Region.wanted o (yielded ops ts) = true := by simp [Region.wanted, hg, val _ h1]
      simp only [this, if_true]
      exact .inl (go h2)
    · have : Region.wanted o (yielded ops ts) = false := by simp [Region.wanted, hg, val _ h1]
      simp only [this, Bool.false_eq_true, if_false]
      exact skip h2 h3
    · have : Region.wanted o (yielded ops ts) = false := by
        have hrel := gt_rel hr t
        rw [h1] at hrel
        have hrel : valAt ts t = undef := hrel
        have hy : yielded ops ts g = none := by
          unfold yielded
          rw [ht']
          simp only [Option.bind_some]
          unfold valAt at hrel
          cases hv : ts[t]? with
          | none => rfl
          | some v =>
            simp only [Array.getD_eq_getD_getElem?, hv, Option.getD_some] at hrel
            rw [hrel]
            rfl
        simp [Region.wanted, hg, hy]
      simp only [this, Bool.false_eq_true, if_false]
      exact skip h2 h3

theorem stepK_wp (hT : TbOk P C.tb) {i : Nat} {a : Act} {w : World} {K' : Sl → Prop} (hi : ops[i]? = some o) (hk : stepK P C ops.toList o sl K') (h : St C w0 F0 ts0 sl a w)
    (hK : ∀ sl', K' sl' → ∀ a' w', St C w0 F0 ts0 sl' a' w' → K a' w') : wpOp P ops Q i K a w := by
  obtain ⟨x, sl', h1, h2⟩ := stepK_step hk
  obtain ⟨h3, h4⟩ := putK_put h2
  exact step_wp hT hi h1 h3 h (hK _ h4)

theorem opsK_wp (hT : TbOk P C.tb) {K' : Sl → Prop} (hK : ∀ sl', K' sl' → ∀ a' w', St C w0 F0 ts0 sl' a' w' → Q .normal a' w') : ∀ (rest : List Oper) (k : Nat) (sl : Sl) (a : Act) (w : World),
    (∀ j, rest[j]? = ops[k + j]?) → opsK P C ops.toList rest sl K' → St C w0 F0 ts0 sl a w → wpOps P ops Q (List.range' k rest.length) a w
  | [], k, sl, a, w, _, hk, h => hK sl hk a w h
  | o :: rest, k, sl, a, w, he, hk, h => by
    rw [List.length_cons, List.range'_succ, wpOps_cons]
    have h0 := he 0
    simp only [List.getElem?_cons_zero, Nat.add_zero] at h0
    refine stepK_wp hT h0.symm hk h fun sl' hk' a' w' h' => opsK_wp hT hK rest (k + 1) sl' a' w' (fun j => ?_) hk' h'
    have := he (j + 1)
    simp only [List.getElem?_cons_succ] at this
    rw [this]; congr 1; omega

theorem region_wp (hT : TbOk P C.tb) {id : Nat} {K' : Sl → Prop} {a : Act} {w : World} (hk : opsK P C ops.toList ops.toList sl K') (h : St C w0 F0 ts0 sl a w)
    (hK : ∀ sl', K' sl' → ∀ a' w', St C w0 F0 ts0 sl' a' w' → Q .normal a' w') : (Code.region id ops false).wp P Q a w := by
  refine wp_region ?_
  have := opsK_wp hT hK ops.toList 0 sl a w (fun j => by simp) hk h
  rwa [Array.length_toList, ← List.range_eq_range'] at this
end
end Go.Proofs.Ytbmflnlppnkbaaa.DL
