/- The data level, part 5: values in flight between slots. -/
import Derived.Test.YtckcehmggdnliaaL4
namespace Go.Proofs.Ytckcehmggdnliaa.DL
open Go Go.RowKit

theorem valAt_set_ne {ts : Array Value} {d t : Nat} {v : Value} (h : t ≠ d) : valAt (ts.setIfInBounds d v) t = valAt ts t := by
  simp [valAt, Array.getElem?_setIfInBounds_ne (Ne.symm h)]
theorem valAt_set_eq {ts : Array Value} {d : Nat} {v : Value} (h : d < ts.size) : valAt (ts.setIfInBounds d v) d = v := by
  simp [valAt, h]

theorem root_of {c : CV} {s : Nat} (h : s ∈ c.roots) : c.roots = [s] := by
  cases c <;> simp [CV.roots] at h ⊢ <;> exact h.symm
theorem not_root_kill (d : Nat) (y : SV) : d ∉ (killSV d y).roots := fun hy => by
  unfold killSV at hy
  split at hy
  · simp [SV.roots] at hy
  · contradiction

theorem killSV_rel {w : World} {φ : Option Nat → List Nat} {f : Nat → Value} {v : Value} {ψ : List Nat} {x : SV} (d : Nat) (h : SlotRel w φ f v ψ x) : SlotRel w φ f v ψ (killSV d x) := by
  unfold killSV
  split
  · exact trivial
  · exact h

section
variable {φ : Option Nat → List Nat} {w0 w w' : World} {F0 : List Nat} {sl : Sl} {fx : SV} {ts : Array Value} {fv : Value}

theorem RelW.extend (h : RelW φ w0 F0 sl fx ts fv w) (hx : Ext [] w w') : RelW φ w0 F0 sl fx ts fv w' :=
  h.update [] h.len (by simpa using hx) (fun _ _ => rfl) (fun m hm => by cases hm) (fun m hm => by cases hm) (fun m hm => by cases hm)
    (fun _ _ => rfl) (fun t _ => ⟨rfl, fun x _ => .inl fun r _ hr => by cases hr⟩) (fun m hm => by cases hm)

def setN (φ : Option Nat → List Nat) (ψ : List Nat) : Option Nat → List Nat := fun t => if t = none then ψ else φ t

/-- A new value takes flight; what it owns is new. -/
theorem RelW.fresh (h : RelW φ w0 F0 sl fx ts fv w) (hx : Ext [] w w') {v : Value} {ψ : List Nat} {x : SV} (hnd : ψ.Nodup)
    (hlt : ∀ b ∈ ψ, w.heap.size ≤ b ∧ b < w'.heap.size) (hrel : SlotRel w' (setN φ ψ) (valAt ts) v ψ x) : RelW (setN φ ψ) w0 F0 sl x ts v w' :=
  h.update [none] h.len (hx.mono (by simp)) (fun t ht => by simp [setN, show t ≠ none from fun e => ht (by simp [e])])
    (fun m hm b hb => by
      have : m = none := by simpa using hm
      subst this
      exact ⟨(hlt b (by simpa [setN] using hb)).2, .inr (hlt b (by simpa [setN] using hb)).1⟩)
    (fun m hm => by
      have : m = none := by simpa using hm
      subst this
      simpa [setN] using hnd)
    (fun m hm m' hm' hne => by
      have e1 : m = none := by simpa using hm
      have e2 : m' = none := by simpa using hm'
      exact absurd (e1.trans e2.symm) hne)
    (fun t ht => by
      cases t with
      | none => simp at ht
      | some t => rfl)
    (fun t ht => by
      cases t with
      | none => simp at ht
      | some t => exact ⟨rfl, fun y _ => .inl fun r _ => by simp⟩)
    (fun m hm y hy => by
      have : m = none := by simpa using hm
      subst this
      cases hy
      simpa [setN, vget] using hrel)

/-- What is in flight lands in slot d. -/
theorem RelW.land (h : RelW φ w0 F0 sl fx ts fv w) (d : Nat) : ∃ φ', RelW φ' w0 F0 (putT sl d fx) .dead (ts.setIfInBounds d fv) fv w := by
  by_cases hd : d < sl.length
  · refine ⟨fun t => if t = some d then φ none else if t = none then [] else φ t, ?_⟩
    have keep : ∀ (y : SV) (u : Value) (χ : List Nat), d ∉ y.roots → SlotRel w φ (valAt ts) u χ y →
        SlotRel w (fun t => if t = some d then φ none else if t = none then [] else φ t) (valAt (ts.setIfInBounds d fv)) u χ y := fun y u χ hy hr =>
      hr.kept ⟨Nat.le_refl _, fun _ _ => rfl, fun r hr' => by
        have hne : r ≠ d := fun e => hy (e ▸ hr')
        exact ⟨valAt_set_ne hne, by simp [hne], fun _ _ => rfl⟩, fun b hb hfree => ⟨rfl, fun t ht => by
          split at ht
          · exact hfree none ht
          · split at ht
            · cases ht
            · exact hfree t ht⟩⟩
    refine ⟨by simp [putT, h.len], fun t x hx => ?_, fun t => ?_, fun s t hne b hb hb' => ?_, fun t b hb => ?_, h.ext⟩
    · cases t with
      | none => simp [sget] at hx; subst hx; exact trivial
      | some t =>
        simp only [sget, putT] at hx
        by_cases e : t = d
        · subst e
          rw [List.getElem?_set_self (by simpa using hd)] at hx
          cases hx
          simp only [vget, if_true]
          rw [valAt_set_eq (by rw [h.len]; exact hd)]
          have := killSV_rel t (h.slot none fx rfl)
          exact keep _ _ _ (not_root_kill t fx) this
        · rw [List.getElem?_set_ne (Ne.symm e), List.getElem?_map] at hx
          cases hz : sl[t]? with
          | none => simp [hz] at hx
          | some z =>
            simp only [hz, Option.map_some, Option.some.injEq] at hx
            subst hx
            simp only [vget]
            rw [valAt_set_ne e, if_neg (by simpa using e), if_neg (by simp)]
            exact keep _ _ _ (not_root_kill d z) (killSV_rel d (h.slot (some t) z hz))
    · split
      · exact h.nd none
      · split
        · exact .nil
        · exact h.nd t
    · by_cases e1 : s = some d
      · subst e1
        simp only [if_true] at hb
        by_cases e2 : t = none
        · subst e2; simp at hb'
        · rw [if_neg (Ne.symm hne), if_neg e2] at hb'
          exact h.dj none t (Ne.symm e2) b hb hb'
      · rw [if_neg e1] at hb
        by_cases e3 : s = none
        · rw [if_pos e3] at hb; cases hb
        · rw [if_neg e3] at hb
          by_cases e2 : t = some d
          · subst e2
            simp only [if_true] at hb'
            exact h.dj s none e3 b hb hb'
          · rw [if_neg e2] at hb'
            by_cases e4 : t = none
            · rw [if_pos e4] at hb'; cases hb'
            · rw [if_neg e4] at hb'; exact h.dj s t hne b hb hb'
    · split at hb
      · exact h.lt none b hb
      · split at hb
        · cases hb
        · exact h.lt t b hb
  · refine ⟨fun t => if t = none then [] else φ t, ?_⟩
    have e0 : ts.setIfInBounds d fv = ts := by
      apply Array.ext'
      simp [List.set_eq_of_length_le, h.len, Nat.le_of_not_lt hd]
    have e1 : putT sl d fx = sl.map (killSV d) := by simp [putT, List.set_eq_of_length_le, Nat.le_of_not_lt hd]
    rw [e0, e1]
    refine ⟨by simp [h.len], fun t x hx => ?_, fun t => ?_, fun s t hne b hb hb' => ?_, fun t b hb => ?_, h.ext⟩
    · cases t with
      | none => simp [sget] at hx; subst hx; exact trivial
      | some t =>
        simp only [sget, List.getElem?_map] at hx
        cases hz : sl[t]? with
        | none => simp [hz] at hx
        | some z =>
          simp only [hz, Option.map_some, Option.some.injEq] at hx
          subst hx
          refine (killSV_rel d (h.slot (some t) z hz)).kept ⟨Nat.le_refl _, fun _ _ => rfl, fun r _ => ⟨rfl, by simp, fun _ _ => rfl⟩, fun b hb hfree => ⟨rfl, fun t ht => ?_⟩⟩
          split at ht
          · cases ht
          · exact hfree t ht
    · split
      · exact .nil
      · exact h.nd t
    · split at hb
      · cases hb
      · split at hb'
        · cases hb'
        · exact h.dj s t hne b hb hb'
    · split at hb
      · cases hb
      · exact h.lt t b hb

theorem CVRel.bare {w : World} {φ : Option Nat → List Nat} {f : Nat → Value} {v : Value} {ψ : List Nat} {c : CV} (h : CVRel w φ f v ψ c) (ho : c.isOwn = false) : CVRel w φ f v [] c := by
  cases c with
  | un => exact trivial
  | sc u => exact ⟨h.1, h.2.1, rfl⟩
  | rd d => exact ⟨rfl, h.2⟩
  | own d => simp [CV.isOwn] at ho
  | ref s p d => exact ⟨rfl, h.2⟩
  | sub s p lo d => exact ⟨rfl, h.2⟩
  | nb es => exact ⟨rfl, h.2⟩
  | hd s p => exact ⟨rfl, h.2⟩

theorem CVs.bare {w : World} {φ : Option Nat → List Nat} {f : Nat → Value} {vs : List Value} {ψ : List Nat} {cs : List CV} (h : CVs w φ f vs cs ψ) (ho : cs.any CV.isOwn = false) : CVs w φ f vs cs [] := by
  induction h with
  | nil => exact .nil
  | cons h _ ih =>
    simp only [List.any_cons, Bool.or_eq_false_iff] at ho
    have := CVs.cons (h.bare ho.1) (ih ho.2)
    simpa using this

theorem RVRel.bare {w : World} {φ : Option Nat → List Nat} {f : Nat → Value} {v : Value} {ψ : List Nat} {r : RV} (h : RVRel w φ f v ψ r) (ho : r.isOwn = false) : RVRel w φ f v [] r := by
  cases r with
  | cell c => exact CVRel.bare h ho
  | agg cs => obtain ⟨vs, h1, h2⟩ := h; exact ⟨vs, h1, h2.bare ho⟩

theorem RVs.bare {w : World} {φ : Option Nat → List Nat} {f : Nat → Value} {vs : List Value} {ψ : List Nat} {rs : List RV} (h : RVs w φ f vs rs ψ) (ho : rs.any RV.isOwn = false) : RVs w φ f vs rs [] := by
  induction h with
  | nil => exact .nil
  | cons h _ ih =>
    simp only [List.any_cons, Bool.or_eq_false_iff] at ho
    have := RVs.cons (h.bare ho.1) (ih ho.2)
    simpa using this

theorem SlotRel.bare {w : World} {φ : Option Nat → List Nat} {f : Nat → Value} {v : Value} {ψ : List Nat} {x : SV} (h : SlotRel w φ f v ψ x) (ho : x.isOwn = false) : SlotRel w φ f v [] x := by
  cases x with
  | dead => exact trivial
  | und => exact h
  | one r => exact RVRel.bare h ho
  | tup rs => obtain ⟨vs, h1, h2⟩ := h; exact ⟨vs, h1, h2.bare ho⟩
  | box cs => simp [SV.isOwn] at ho
  | ptr s q j => exact ⟨rfl, h.2⟩
  | rptr ds => exact ⟨rfl, h.2⟩
  | cloR g caps => exact ⟨rfl, h.2⟩
  | cloS g ss => exact ⟨rfl, h.2⟩

/-- What owns nothing may take flight as it is seen. -/
theorem RelW.see (h : RelW φ w0 F0 sl fx ts fv w) {v : Value} {x : SV} (hrel : SlotRel w φ (valAt ts) v [] x) : RelW (setN φ []) w0 F0 sl x ts v w :=
  h.fresh (Ext.refl _ _) .nil (fun b hb => by cases hb)
    (hrel.kept ⟨Nat.le_refl _, fun _ _ => rfl, fun r _ => ⟨rfl, by simp [setN], fun _ _ => rfl⟩, fun b _ hf => ⟨rfl, fun t ht => by
      unfold setN at ht
      split at ht
      · cases ht
      · exact hf t ht⟩⟩)

theorem gt_rel (h : RelW φ w0 F0 sl fx ts fv w) (t : Nat) : SlotRel w φ (valAt ts) (valAt ts t) (φ (some t)) (gt sl t) := by
  unfold gt
  cases hz : sl[t]? with
  | none => simp [List.getD, hz]; exact trivial
  | some z =>
    have := h.slot (some t) z hz
    simpa [List.getD, hz, vget] using this

theorem RelW.take (h : RelW φ w0 F0 sl fx ts fv w) (t : Nat) : ∃ φ', RelW φ' w0 F0 (takeT sl t).2 (takeT sl t).1 ts (valAt ts t) w := by
  unfold takeT
  by_cases ho : (gt sl t).isOwn = true
  · rw [if_pos ho]
    have keep : ∀ (y : SV) (u : Value) (χ : List Nat), t ∉ y.roots → SlotRel w φ (valAt ts) u χ y →
        SlotRel w (fun s => if s = none then φ (some t) else if s = some t then [] else φ s) (valAt ts) u χ y := fun y u χ hy hr =>
      hr.kept ⟨Nat.le_refl _, fun _ _ => rfl, fun r hr' => by
        have hne : r ≠ t := fun e => hy (e ▸ hr')
        exact ⟨rfl, by simp [hne], fun _ _ => rfl⟩, fun b hb hfree => ⟨rfl, fun s hs => by
          split at hs
          · exact hfree (some t) hs
          · split at hs
            · cases hs
            · exact hfree s hs⟩⟩
    refine ⟨fun s => if s = none then φ (some t) else if s = some t then [] else φ s, by simp [putT, h.len], fun s x hx => ?_, fun s => ?_, fun s s' hne b hb hb' => ?_, fun s b hb => ?_, h.ext⟩
    · cases s with
      | none =>
        cases hx
        simp only [vget, if_true]
        exact keep _ _ _ (not_root_kill t _) (killSV_rel t (gt_rel h t))
      | some s =>
        simp only [sget, putT] at hx
        by_cases e : s = t
        · subst e
          rw [List.getElem?_set] at hx
          simp only [if_true] at hx
          split at hx
          · cases hx; unfold killSV; split <;> exact trivial
          · cases hx
        · rw [List.getElem?_set_ne (Ne.symm e), List.getElem?_map] at hx
          cases hz : sl[s]? with
          | none => simp [hz] at hx
          | some z =>
            simp only [hz, Option.map_some, Option.some.injEq] at hx
            subst hx
            rw [if_neg (by simp), if_neg (by simpa using e)]
            exact keep _ _ _ (not_root_kill t z) (killSV_rel t (h.slot (some s) z hz))
    · split
      · exact h.nd _
      · split
        · exact .nil
        · exact h.nd s
    · split at hb
      · split at hb'
        · rename_i e1 e2; exact hne (e1.trans e2.symm)
        · split at hb'
          · cases hb'
          · rename_i e1 e2 e3; exact h.dj (some t) s' (Ne.symm e3) b hb hb'
      · split at hb
        · cases hb
        · split at hb'
          · rename_i e1 e2 e3; exact h.dj s (some t) e2 b hb hb'
          · split at hb'
            · cases hb'
            · exact h.dj s s' hne b hb hb'
    · split at hb
      · exact h.lt _ b hb
      · split at hb
        · cases hb
        · exact h.lt s b hb
  · rw [if_neg ho]
    exact ⟨_, h.see ((gt_rel h t).bare (by simpa using ho))⟩

end

end Go.Proofs.Ytckcehmggdnliaa.DL
