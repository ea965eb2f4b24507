/- The library: parts L5 to L13. -/
import Derived.Test.YtlffmhhdgedddaaL4
import Derived.Laws.Entries
import Derived.Laws.MakeOwn
/- The data level, part 5: values in flight between slots. -/
namespace Go.Proofs.Ytlffmhhdgedddaa.DL
open Go Go.RowKit

theorem valAt_set_ne {ts : Array Value} {d t : Nat} {v : Value} (h : t ≠ d) : valAt (ts.setIfInBounds d v) t = valAt ts t := by
  simp [valAt, Array.getElem?_setIfInBounds_ne (Ne.symm h)]
theorem valAt_set_eq {ts : Array Value} {d : Nat} {v : Value} (h : d < ts.size) : valAt (ts.setIfInBounds d v) d = v := by
  simp [valAt, h]

theorem root_of {c : CV} {s : Nat} (h : s ∈ c.roots) : c.roots = [s] := by
  cases c <;> simp [CV.roots] at h ⊢ <;> exact h.symm
theorem not_root_kill (d : Nat) (y : SV) : d ∉ (killSV d y).roots := fun hy => by
  unfold killSV at hy
  split at hy
  · simp [SV.roots] at hy
  · contradiction

theorem killSV_rel {w : World} {φ : Option Nat → List Nat} {f : Nat → Value} {v : Value} {ψ : List Nat} {x : SV} (d : Nat) (h : SlotRel w φ f v ψ x) : SlotRel w φ f v ψ (killSV d x) := by
  unfold killSV
  split
  · exact trivial
  · exact h

section
variable {φ : Option Nat → List Nat} {w0 w w' : World} {F0 : List Nat} {sl : Sl} {fx : SV} {ts : Array Value} {fv : Value}

theorem RelW.extend (h : RelW φ w0 F0 sl fx ts fv w) (hx : Ext [] w w') : RelW φ w0 F0 sl fx ts fv w' :=
  h.update [] h.len (by simpa using hx) (fun _ _ => rfl) (fun m hm => by cases hm) (fun m hm => by cases hm) (fun m hm => by cases hm)
    (fun _ _ => rfl) (fun t _ => ⟨rfl, fun x _ => .inl fun r _ hr => by cases hr⟩) (fun m hm => by cases hm)

def setN (φ : Option Nat → List Nat) (ψ : List Nat) : Option Nat → List Nat := fun t => if t = none then ψ else φ t

/-- A new value takes flight; what it owns is new. -/
theorem RelW.fresh (h : RelW φ w0 F0 sl fx ts fv w) (hx : Ext [] w w') {v : Value} {ψ : List Nat} {x : SV} (hnd : ψ.Nodup)
    (hlt : ∀ b ∈ ψ, w.heap.size ≤ b ∧ b < w'.heap.size) (hrel : SlotRel w' (setN φ ψ) (valAt ts) v ψ x) : RelW (setN φ ψ) w0 F0 sl x ts v w' :=
  h.update [none] h.len (hx.mono (by simp)) (fun t ht => by simp [setN, show t ≠ none from fun e => ht (by simp [e])])
    (fun m hm b hb => by
      have : m = none := by simpa using hm
      subst this
      exact ⟨(hlt b (by simpa [setN] using hb)).2, .inr (hlt b (by simpa [setN] using hb)).1⟩)
    (fun m hm => by
      have : m = none := by simpa using hm
      subst this
      simpa [setN] using hnd)
    (fun m hm m' hm' hne => by
      have e1 : m = none := by simpa using hm
      have e2 : m' = none := by simpa using hm'
      exact absurd (e1.trans e2.symm) hne)
    (fun t ht => by
      cases t with
      | none => simp at ht
      | some t => rfl)
    (fun t ht => by
      cases t with
      | none => simp at ht
      | some t => exact ⟨rfl, fun y _ => .inl fun r _ => by simp⟩)
    (fun m hm y hy => by
      have : m = none := by simpa using hm
      subst this
      cases hy
      simpa [setN, vget] using hrel)

/-- What is in flight lands in slot d. -/
theorem RelW.land (h : RelW φ w0 F0 sl fx ts fv w) (d : Nat) : ∃ φ', RelW φ' w0 F0 (putT sl d fx) .dead (ts.setIfInBounds d fv) fv w := by
  by_cases hd : d < sl.length
  · refine ⟨fun t => if t = some d then φ none else if t = none then [] else φ t, ?_⟩
    have keep : ∀ (y : SV) (u : Value) (χ : List Nat), d ∉ y.roots → SlotRel w φ (valAt ts) u χ y →
        SlotRel w (fun t => if t = some d then φ none else if t = none then [] else φ t) (valAt (ts.setIfInBounds d fv)) u χ y := fun y u χ hy hr =>
      hr.kept ⟨Nat.le_refl _, fun _ _ => rfl, fun r hr' => by
        have hne : r ≠ d := fun e => hy (e ▸ hr')
        exact ⟨valAt_set_ne hne, by simp [hne], fun _ _ => rfl⟩, fun b hb hfree => ⟨rfl, fun t ht => by
          split at ht
          · exact hfree none ht
          · split at ht
            · cases ht
            · exact hfree t ht⟩⟩
    refine ⟨by simp [putT, h.len], fun t x hx => ?_, fun t => ?_, fun s t hne b hb hb' => ?_, fun t b hb => ?_, h.ext⟩
    · cases t with
      | none => simp [sget] at hx; subst hx; exact trivial
      | some t =>
        simp only [sget, putT] at hx
        by_cases e : t = d
        · subst e
          rw [List.getElem?_set_self (by simpa using hd)] at hx
          cases hx
          simp only [vget, if_true]
          rw [valAt_set_eq (by rw [h.len]; exact hd)]
          have := killSV_rel t (h.slot none fx rfl)
          exact keep _ _ _ (not_root_kill t fx) this
        · rw [List.getElem?_set_ne (Ne.symm e), List.getElem?_map] at hx
          cases hz : sl[t]? with
          | none => simp [hz] at hx
          | some z =>
            simp only [hz, Option.map_some, Option.some.injEq] at hx
            subst hx
            simp only [vget]
            rw [valAt_set_ne e, if_neg (by simpa using e), if_neg (by simp)]
            exact keep _ _ _ (not_root_kill d z) (killSV_rel d (h.slot (some t) z hz))
    · split
      · exact h.nd none
      · split
        · exact .nil
        · exact h.nd t
    · by_cases e1 : s = some d
      · subst e1
        simp only [if_true] at hb
        by_cases e2 : t = none
        · subst e2; simp at hb'
        · rw [if_neg (Ne.symm hne), if_neg e2] at hb'
          exact h.dj none t (Ne.symm e2) b hb hb'
      · rw [if_neg e1] at hb
        by_cases e3 : s = none
        · rw [if_pos e3] at hb; cases hb
        · rw [if_neg e3] at hb
          by_cases e2 : t = some d
          · subst e2
            simp only [if_true] at hb'
            exact h.dj s none e3 b hb hb'
          · rw [if_neg e2] at hb'
            by_cases e4 : t = none
            · rw [if_pos e4] at hb'; cases hb'
            · rw [if_neg e4] at hb'; exact h.dj s t hne b hb hb'
    · split at hb
      · exact h.lt none b hb
      · split at hb
        · cases hb
        · exact h.lt t b hb
  · refine ⟨fun t => if t = none then [] else φ t, ?_⟩
    have e0 : ts.setIfInBounds d fv = ts := by
      apply Array.ext'
      simp [List.set_eq_of_length_le, h.len, Nat.le_of_not_lt hd]
    have e1 : putT sl d fx = sl.map (killSV d) := by simp [putT, List.set_eq_of_length_le, Nat.le_of_not_lt hd]
    rw [e0, e1]
    refine ⟨by simp [h.len], fun t x hx => ?_, fun t => ?_, fun s t hne b hb hb' => ?_, fun t b hb => ?_, h.ext⟩
    · cases t with
      | none => simp [sget] at hx; subst hx; exact trivial
      | some t =>
        simp only [sget, List.getElem?_map] at hx
        cases hz : sl[t]? with
        | none => simp [hz] at hx
        | some z =>
          simp only [hz, Option.map_some, Option.some.injEq] at hx
          subst hx
          refine (killSV_rel d (h.slot (some t) z hz)).kept ⟨Nat.le_refl _, fun _ _ => rfl, fun r _ => ⟨rfl, by simp, fun _ _ => rfl⟩, fun b hb hfree => ⟨rfl, fun t ht => ?_⟩⟩
          split at ht
          · cases ht
          · exact hfree t ht
    · split
      · exact .nil
      · exact h.nd t
    · split at hb
      · cases hb
      · split at hb'
        · cases hb'
        · exact h.dj s t hne b hb hb'
    · split at hb
      · cases hb
      · exact h.lt t b hb

theorem CVRel.bare {w : World} {φ : Option Nat → List Nat} {f : Nat → Value} {v : Value} {ψ : List Nat} {c : CV} (h : CVRel w φ f v ψ c) (ho : c.isOwn = false) : CVRel w φ f v [] c := by
  cases c with
  | un => exact trivial
  | sc u => exact ⟨h.1, h.2.1, rfl⟩
  | rd d => exact ⟨rfl, h.2⟩
  | own d => simp [CV.isOwn] at ho
  | ref s p d => exact ⟨rfl, h.2⟩
  | sub s p lo d => exact ⟨rfl, h.2⟩
  | nb es => exact ⟨rfl, h.2⟩
  | hd s p => exact ⟨rfl, h.2⟩
  | vl u d => exact ⟨rfl, h.2⟩

theorem CVs.bare {w : World} {φ : Option Nat → List Nat} {f : Nat → Value} {vs : List Value} {ψ : List Nat} {cs : List CV} (h : CVs w φ f vs cs ψ) (ho : cs.any CV.isOwn = false) : CVs w φ f vs cs [] := by
  induction h with
  | nil => exact .nil
  | cons h _ ih =>
    simp only [List.any_cons, Bool.or_eq_false_iff] at ho
    have := CVs.cons (h.bare ho.1) (ih ho.2)
    simpa using this

theorem RVRel.bare {w : World} {φ : Option Nat → List Nat} {f : Nat → Value} {v : Value} {ψ : List Nat} {r : RV} (h : RVRel w φ f v ψ r) (ho : r.isOwn = false) : RVRel w φ f v [] r := by
  cases r with
  | cell c => exact CVRel.bare h ho
  | agg cs => obtain ⟨vs, h1, h2⟩ := h; exact ⟨vs, h1, h2.bare ho⟩

theorem RVs.bare {w : World} {φ : Option Nat → List Nat} {f : Nat → Value} {vs : List Value} {ψ : List Nat} {rs : List RV} (h : RVs w φ f vs rs ψ) (ho : rs.any RV.isOwn = false) : RVs w φ f vs rs [] := by
  induction h with
  | nil => exact .nil
  | cons h _ ih =>
    simp only [List.any_cons, Bool.or_eq_false_iff] at ho
    have := RVs.cons (h.bare ho.1) (ih ho.2)
    simpa using this

theorem SlotRel.bare {w : World} {φ : Option Nat → List Nat} {f : Nat → Value} {v : Value} {ψ : List Nat} {x : SV} (h : SlotRel w φ f v ψ x) (ho : x.isOwn = false) : SlotRel w φ f v [] x := by
  cases x with
  | dead => exact trivial
  | und => exact h
  | one r => exact RVRel.bare h ho
  | tup rs => obtain ⟨vs, h1, h2⟩ := h; exact ⟨vs, h1, h2.bare ho⟩
  | box cs => simp [SV.isOwn] at ho
  | ptr s q j => exact ⟨rfl, h.2⟩
  | rptr ds => exact ⟨rfl, h.2⟩
  | cloR g caps => exact ⟨rfl, h.2⟩
  | cloS g ss => exact ⟨rfl, h.2⟩

/-- What owns nothing may take flight as it is seen. -/
theorem RelW.see (h : RelW φ w0 F0 sl fx ts fv w) {v : Value} {x : SV} (hrel : SlotRel w φ (valAt ts) v [] x) : RelW (setN φ []) w0 F0 sl x ts v w :=
  h.fresh (Ext.refl _ _) .nil (fun b hb => by cases hb)
    (hrel.kept ⟨Nat.le_refl _, fun _ _ => rfl, fun r _ => ⟨rfl, by simp [setN], fun _ _ => rfl⟩, fun b _ hf => ⟨rfl, fun t ht => by
      unfold setN at ht
      split at ht
      · cases ht
      · exact hf t ht⟩⟩)

theorem gt_rel (h : RelW φ w0 F0 sl fx ts fv w) (t : Nat) : SlotRel w φ (valAt ts) (valAt ts t) (φ (some t)) (gt sl t) := by
  unfold gt
  cases hz : sl[t]? with
  | none => simp [List.getD, hz]; exact trivial
  | some z =>
    have := h.slot (some t) z hz
    simpa [List.getD, hz, vget] using this

theorem RelW.take (h : RelW φ w0 F0 sl fx ts fv w) (t : Nat) : ∃ φ', RelW φ' w0 F0 (takeT sl t).2 (takeT sl t).1 ts (valAt ts t) w := by
  unfold takeT
  by_cases ho : (gt sl t).isOwn = true
  · rw [if_pos ho]
    have keep : ∀ (y : SV) (u : Value) (χ : List Nat), t ∉ y.roots → SlotRel w φ (valAt ts) u χ y →
        SlotRel w (fun s => if s = none then φ (some t) else if s = some t then [] else φ s) (valAt ts) u χ y := fun y u χ hy hr =>
      hr.kept ⟨Nat.le_refl _, fun _ _ => rfl, fun r hr' => by
        have hne : r ≠ t := fun e => hy (e ▸ hr')
        exact ⟨rfl, by simp [hne], fun _ _ => rfl⟩, fun b hb hfree => ⟨rfl, fun s hs => by
          split at hs
          · exact hfree (some t) hs
          · split at hs
            · cases hs
            · exact hfree s hs⟩⟩
    refine ⟨fun s => if s = none then φ (some t) else if s = some t then [] else φ s, by simp [putT, h.len], fun s x hx => ?_, fun s => ?_, fun s s' hne b hb hb' => ?_, fun s b hb => ?_, h.ext⟩
    · cases s with
      | none =>
        cases hx
        simp only [vget, if_true]
        exact keep _ _ _ (not_root_kill t _) (killSV_rel t (gt_rel h t))
      | some s =>
        simp only [sget, putT] at hx
        by_cases e : s = t
        · subst e
          rw [List.getElem?_set] at hx
          simp only [if_true] at hx
          split at hx
          · cases hx; unfold killSV; split <;> exact trivial
          · cases hx
        · rw [List.getElem?_set_ne (Ne.symm e), List.getElem?_map] at hx
          cases hz : sl[s]? with
          | none => simp [hz] at hx
          | some z =>
            simp only [hz, Option.map_some, Option.some.injEq] at hx
            subst hx
            rw [if_neg (by simp), if_neg (by simpa using e)]
            exact keep _ _ _ (not_root_kill t z) (killSV_rel t (h.slot (some s) z hz))
    · split
      · exact h.nd _
      · split
        · exact .nil
        · exact h.nd s
    · split at hb
      · split at hb'
        · rename_i e1 e2; exact hne (e1.trans e2.symm)
        · split at hb'
          · cases hb'
          · rename_i e1 e2 e3; exact h.dj (some t) s' (Ne.symm e3) b hb hb'
      · split at hb
        · cases hb
        · split at hb'
          · rename_i e1 e2 e3; exact h.dj s (some t) e2 b hb hb'
          · split at hb'
            · cases hb'
            · exact h.dj s s' hne b hb hb'
    · split at hb
      · exact h.lt _ b hb
      · split at hb
        · cases hb
        · exact h.lt s b hb
  · rw [if_neg ho]
    exact ⟨_, h.see ((gt_rel h t).bare (by simpa using ho))⟩

end

end Go.Proofs.Ytlffmhhdgedddaa.DL

/- The data level, part 6: the operations without a call do what is told of them. -/
namespace Go.Proofs.Ytlffmhhdgedddaa.DL
open Go Go.RowKit

def zeroV : CV → Value
  | .sc v => v
  | .own _ => .slice none 0 0
  | _ => undef
def zeroOk : CV → Bool
  | .sc v => isSc v
  | .own (.sl _ []) => true
  | _ => false
/-- A row of the table fits the program. -/
def TIok (P : Program) (t : TypeId) (i : TI) : Prop :=
  match i.k with
  | .other => i.size = 0
  | k => (∃ j z, P.info? t = some j ∧ j.size = i.size ∧ j.zero = some z ∧ z.cells.toList = i.zero.map zeroV ∧ j.bytes = i.bytes) ∧ i.zero.all zeroOk = true ∧ i.zero.length = i.size ∧ 0 < i.size ∧
    match k with
    | .int k => P.underlying t = some (.int k) ∧ i.size = 1
    | .bool => P.underlying t = some .bool ∧ i.size = 1
    | .string => P.underlying t = some .string ∧ i.size = 1
    | .slice e => P.underlying t = some (.slice e) ∧ i.size = 1
    | .struct offs => ∃ fs, P.underlying t = some (.struct fs) ∧ fs.toList.map (·.offset) = offs ∧ (fs.toList.all fun f => (P.info? f.type).any fun j => j.size != 0) = true ∧
      fs.toList.mapM (fun f => (P.info? f.type).map fun j => (f.offset, j.size)) = some (offs.zip i.szs)
    | .array n e => P.underlying t = some (.array n e)
    | .other => True
/-- Fields that are integers, one after the other. -/
def eqFsB (P : Program) : Nat → List Field → Nat → Bool
  | off, [], n => off == n
  | off, f :: fs, n => f.name != "_" && f.offset == off && (match P.underlying f.type with
    | some (.int _) => true
    | _ => false) && eqFsB P (off + 1) fs n
/-- A struct of integers alone. -/
def eqTyB (P : Program) (t : TypeId) (n : Nat) : Bool :=
  match P.underlying t with
  | some (.struct fs) => !P.stoodInHeld t && !P.eqGuardType P.depth t && eqFsB P 0 fs.toList n
  | _ => false
def TbOk (P : Program) (tb : Tb) : Prop := ∀ t, TIok P t (tb t) ∧ ((tb t).eq = true → eqTyB P t (tb t).size = true)

theorem conjK_iff (cs : List Prop) (K : Prop) : conjK cs K ↔ (∀ c ∈ cs, c) ∧ K := by
  induction cs with
  | nil => simp [conjK]
  | cons c cs ih =>
    simp only [conjK, ih]
    constructor
    · rintro ⟨h1, h2, h3⟩
      refine ⟨fun x hx => ?_, h3⟩
      rcases List.mem_cons.1 hx with rfl | hx
      · exact h1
      · exact h2 x hx
    · rintro ⟨h1, h2⟩
      exact ⟨h1 c (List.mem_cons_self ..), fun x hx => h1 x (List.mem_cons_of_mem _ hx), h2⟩

/-- What the operation comes to: a value, or nothing. -/
def Yields (P : Program) (op : Op) (ty : TypeId) (ρ : Operand → Value) (w : World) (v : Value) (w' : World) : Prop :=
  ∀ dst pos after guard, (execOp ρ ⟨dst, op, ty, pos, after, guard⟩).run P w = .ok (.value v) w' ∨
    ((execOp ρ ⟨dst, op, ty, pos, after, guard⟩).run P w = .ok .skip w' ∧ v = undef)

section
variable {P : Program} {tb : Tb} {φ : Option Nat → List Nat} {w0 w w' : World} {F0 : List Nat} {sl : Sl} {fx : SV} {ts : Array Value} {fv : Value} {ds : List Deferred}

/-- No struct, no tuple: such a value may be seen where it lies. -/
def flat : SV → Bool
  | .tup _ | .one (.agg _) => false
  | _ => true

theorem resC_rel (h : RelW φ w0 F0 sl fx ts fv w) {v : Value} {ψ : List Nat} {c : CV} (hc : CVRel w φ (valAt ts) v ψ c) : CVRel w φ (valAt ts) v ψ (resC sl c) := by
  unfold resC
  split
  · rename_i s p
    obtain ⟨rfl, h1⟩ := hc
    have hg := gt_rel h s
    split
    · rename_i d hd
      unfold topOwn at hd
      split at hd
      · rename_i d' e
        cases hd
        rw [e] at hg
        have e1 : valAt ts s = v := Option.some.inj h1
        have hg : Rd true w [valAt ts s] [d] (φ (some s)) := hg
        rw [e1] at hg
        exact ⟨rfl, h1, _, hg.weaken, fun b hb => hb⟩
      · rename_i cs j e
        split at hd
        · rename_i d' hj
          cases hd
          rw [e] at hg
          obtain ⟨-, b0, c0, el0, ψs0, m1, m2, m3, m4⟩ := hg
          have key : ∀ (vs : List Value) (cs : List CV) (ψ : List Nat), CVs w φ (valAt ts) vs cs ψ → ∀ j, cs.getD j .un = .own d → ∃ u χ, vs[j]? = some u ∧ Rd true w [u] [d] χ ∧ ∀ b ∈ χ, b ∈ ψ := by
            intro vs cs ψ hcv
            induction hcv with
            | nil => intro j hj; simp at hj
            | cons g1 _ ih =>
              intro j hj
              cases j with
              | zero =>
                simp at hj
                subst hj
                exact ⟨_, _, rfl, g1, fun b hb => by simp [hb]⟩
              | succ j =>
                obtain ⟨u, χ, k1, k2, k3⟩ := ih j (by simpa using hj)
                exact ⟨u, χ, by simpa using k1, k2, fun b hb => by simp [k3 b hb]⟩
          obtain ⟨u, χ, k1, k2, k3⟩ := key _ _ _ m3 j hj
          have hu : u = v := by
            rw [m1] at h1
            simp only [hdr, locOf] at h1
            rw [if_pos (by rw [m4]; exact List.mem_cons_self ..)] at h1
            have hcell : w.cell? ⟨b0, 0 + j, none⟩ = some u := by
              simp only [World.cell?, m2, Nat.zero_add]
              simpa using k1
            rw [hcell] at h1
            simpa [hdr] using h1
          subst hu
          exact ⟨rfl, (by rw [← m1] at *; exact h1), χ, k2.weaken, fun b hb => by rw [m4]; exact List.mem_cons_of_mem _ (k3 b hb)⟩
        · cases hd
      · cases hd
    · exact ⟨rfl, h1⟩
  · exact hc
theorem resCs_rel (h : RelW φ w0 F0 sl fx ts fv w) {vs : List Value} {ψ : List Nat} {cs : List CV} (hc : CVs w φ (valAt ts) vs cs ψ) : CVs w φ (valAt ts) vs (cs.map (resC sl)) ψ := by
  induction hc with
  | nil => exact .nil
  | cons h1 _ ih => exact .cons (resC_rel h h1) ih

theorem view_rel (h : RelW φ w0 F0 sl fx ts fv w) (t : Nat) (hf : flat (gt sl t) = true) : SlotRel w φ (valAt ts) (valAt ts t) [] (view sl t) := by
  have hg := gt_rel h t
  unfold view
  split
  · rename_i d e
    rw [e] at hg
    have hg : Rd true w [valAt ts t] [d] (φ (some t)) := hg
    exact ⟨rfl, rfl, φ (some t), Rd.weaken hg, fun b hb => hb⟩
  · rename_i c hn e
    rw [e] at hg
    have hno : c.isOwn = false := by
      cases c with
      | own d => exact (hn d rfl).elim
      | _ => rfl
    exact resC_rel h (CVRel.bare hg hno)
  · rename_i cs e
    rw [e] at hf
    simp [flat] at hf
  · rename_i cs e
    rw [e] at hg
    obtain ⟨-, b, c, el, ψs, h1, h2, h3, h4⟩ := hg
    exact ⟨rfl, valAt ts t, b, 0, rfl, by rw [h1]; rfl, by rw [h1]⟩
  · rename_i n1 n2 n3 n4
    generalize gt sl t = x at *
    cases x with
    | dead => exact trivial
    | und => exact hg
    | tup rs => simp [flat] at hf
    | box cs => exact absurd rfl (n4 cs)
    | ptr s q j => exact ⟨rfl, hg.2⟩
    | rptr ds => exact ⟨rfl, hg.2⟩
    | cloR g caps => exact ⟨rfl, hg.2⟩
    | cloS g ss => exact ⟨rfl, hg.2⟩
    | one r =>
      cases r with
      | agg cs => exact absurd rfl (n3 cs)
      | cell c => exact absurd rfl (n2 c)

theorem const_rel {ty : TypeId} {v : Value} {x : SV} (φ : Option Nat → List Nat) (f : Nat → Value) (h : constSV tb ty v = some x) : SlotRel w φ f v [] x := by
  unfold constSV at h
  split at h
  · cases h; exact ⟨rfl, rfl, rfl⟩
  · cases h; exact ⟨rfl, rfl, rfl⟩
  · cases h; exact ⟨rfl, rfl, rfl⟩
  · split at h
    · cases h
      exact Rd.e0 (fun _ => rfl) .nil
    · cases h
  · cases h; exact trivial
  · cases h

theorem opView_rel {ty : TypeId} {o : Operand} {x : SV} (h : RelW φ w0 F0 sl fx ts fv w) (hx : opView tb ty sl o = some x) (hf : flat x = true) :
    SlotRel w φ (valAt ts) (Act.eval ⟨ts, ds⟩ o) [] x := by
  cases o with
  | tmp t =>
    simp only [opView, Option.some.injEq] at hx
    subst hx
    refine view_rel h t ?_
    unfold view at hf
    generalize gt sl t = y at *
    cases y with
    | one r => cases r with
      | cell c => rfl
      | agg cs => simp [flat] at hf
    | tup rs => simpa using hf
    | _ => rfl
  | const v => exact const_rel φ _ hx
  | func f =>
    simp only [opView, Option.some.injEq] at hx
    subst hx
    exact ⟨rfl, #[], rfl, .nil⟩
  | global g => simp [opView] at hx

theorem opView_sc {ty : TypeId} {o : Operand} {u : Value} (h : RelW φ w0 F0 sl fx ts fv w) (hx : opView tb ty sl o = some (.one (.cell (.sc u)))) : Act.eval ⟨ts, ds⟩ o = u ∧ isSc u = true := by
  have := opView_rel (ds := ds) h hx rfl
  exact ⟨this.1, this.2.1⟩

theorem opTake_rel {ty : TypeId} {o : Operand} {x : SV} {sl' : Sl} (h : RelW φ w0 F0 sl fx ts fv w) (hx : opTake tb ty sl o = some (x, sl')) :
    ∃ φ', RelW φ' w0 F0 sl' x ts (Act.eval ⟨ts, ds⟩ o) w := by
  cases o with
  | tmp t =>
    simp only [opTake, Option.some.injEq] at hx
    have := h.take t
    rw [hx] at this
    exact this
  | const v =>
    simp only [opTake, Option.map_eq_some_iff] at hx
    obtain ⟨y, hy, he⟩ := hx
    cases he
    exact ⟨_, h.see (const_rel φ _ hy)⟩
  | func f =>
    simp only [opTake, Option.some.injEq] at hx
    cases hx
    exact ⟨_, h.see ⟨rfl, #[], rfl, .nil⟩⟩
  | global g => simp [opTake] at hx

theorem yields_pure {op : Op} {ty : TypeId} {ρ : Operand → Value} {v : Value} (h : ∀ dst pos after guard, execOp ρ ⟨dst, op, ty, pos, after, guard⟩ = pure (.value v)) : Yields P op ty ρ w v w :=
  fun dst pos after guard => .inl (by rw [h]; rfl)
theorem yields_val {op : Op} {ty : TypeId} {ρ : Operand → Value} {s : Sem Value} {v : Value} (h : ∀ dst pos after guard, execOp ρ ⟨dst, op, ty, pos, after, guard⟩ = (do pure (.value (← s))))
    (hs : s.run P w = .ok v w') : Yields P op ty ρ w v w' :=
  fun dst pos after guard => .inl (by rw [h, Sem.run_bind, hs]; rfl)
theorem yields_unit {op : Op} {ty : TypeId} {ρ : Operand → Value} {s : Sem Unit} (h : ∀ dst pos after guard, execOp ρ ⟨dst, op, ty, pos, after, guard⟩ = (do s; pure .skip))
    (hs : s.run P w = .ok () w') : Yields P op ty ρ w undef w' :=
  fun dst pos after guard => .inr ⟨by rw [h, Sem.run_bind, hs]; rfl, rfl⟩

theorem info_of (hT : TbOk P tb) {t : TypeId} (hk : (tb t).k ≠ .other) : ∃ j z, P.info? t = some j ∧ j.size = (tb t).size ∧ j.zero = some z ∧ z.cells.toList = (tb t).zero.map zeroV ∧ j.bytes = (tb t).bytes := by
  have := (hT t).1
  unfold TIok at this
  split at this
  · rename_i h; exact absurd h hk
  · exact this.1

/-- The value in flight becomes another one: its blocks may be written, new ones may come to it. -/
theorem RelW.refly (h : RelW φ w0 F0 sl fx ts fv w) (hx : Ext (φ none) w w') {v : Value} {ψ : List Nat} {x : SV} (hnd : ψ.Nodup)
    (hlt : ∀ b ∈ ψ, b < w'.heap.size ∧ (b ∈ φ none ∨ w.heap.size ≤ b)) (hrel : SlotRel w' (setN φ ψ) (valAt ts) v ψ x) : RelW (setN φ ψ) w0 F0 sl x ts v w' :=
  h.update [none] h.len (by simpa using hx) (fun t ht => by simp [setN, show t ≠ none from fun e => ht (by simp [e])])
    (fun m hm b hb => by
      have : m = none := by simpa using hm
      subst this
      have := hlt b (by simpa [setN] using hb)
      exact ⟨this.1, this.2.imp (fun h => ⟨none, by simp, h⟩) id⟩)
    (fun m hm => by
      have : m = none := by simpa using hm
      subst this
      simpa [setN] using hnd)
    (fun m hm m' hm' hne => by
      have e1 : m = none := by simpa using hm
      have e2 : m' = none := by simpa using hm'
      exact absurd (e1.trans e2.symm) hne)
    (fun t ht => by
      cases t with
      | none => simp at ht
      | some t => rfl)
    (fun t ht => by
      cases t with
      | none => simp at ht
      | some t => exact ⟨rfl, fun y _ => .inl fun r _ => by simp⟩)
    (fun m hm y hy => by
      have : m = none := by simpa using hm
      subst this
      cases hy
      simpa [setN, vget] using hrel)

/-- What may be kept of a relation when new blocks come to what is in flight. -/
theorem Kept.setN {ψ χ : List Nat} {R : List Nat} (hx : Ext [] w w') (hχ : ∀ b ∈ χ, b ∈ φ none ∨ w.heap.size ≤ b) (hψ : ∀ b ∈ ψ, b < w.heap.size) (hl : ∀ t, ∀ b ∈ φ t, b < w.heap.size) :
    Kept w φ (valAt ts) w' (DL.setN φ χ) (valAt ts) ψ R :=
  ⟨hx.size, fun b hb => hx.block b (hψ b hb) (by simp), fun r _ => ⟨rfl, by simp [DL.setN], fun b hb => hx.block b (hl _ b hb) (by simp)⟩, fun b hb hf => ⟨hx.block b hb (by simp), fun t ht => by
    unfold DL.setN at ht
    split at ht
    · rcases hχ b ht with h | h
      · exact hf none h
      · omega
    · exact hf t ht⟩⟩

theorem CVs.zero {f : Nat → Value} : ∀ {zs : List CV}, zs.all zeroOk = true → CVs w φ f (zs.map zeroV) zs []
  | [], _ => .nil
  | z :: zs, h => by
    simp only [List.all_cons, Bool.and_eq_true] at h
    have h1 : CVRel w φ f (zeroV z) [] z := by
      cases z with
      | sc v => exact ⟨rfl, h.1, rfl⟩
      | own d =>
        cases d with
        | val v => simp [zeroOk] at h
        | sl sz es =>
          cases es with
          | nil => exact .e0 (fun _ => rfl) .nil
          | cons _ _ => simp [zeroOk] at h
      | _ => simp [zeroOk] at h
    have := CVs.cons h1 (CVs.zero h.2)
    simpa using this

theorem run_zeroValue {t : TypeId} {i : TypeInfo} {z : Value} (hi : P.info? t = some i) (hz : i.zero = some z) : (zeroValue t).run P w = .ok z w := by
  simp [zeroValue, typeInfo, hi, hz]

theorem heap_alloc_self (w : World) (o : Obj) : (w.alloc o).heap[w.heap.size]? = some o := by
  show (w.heap.push o)[w.heap.size]? = _
  simp

/-- A new block of cells, as a box. -/
theorem RelW.newBox (h : RelW φ w0 F0 sl fx ts fv w) {c : Array Value} {el : TypeId} {cs : List CV} (hc : CVs w φ (valAt ts) c.toList cs (φ none)) (hcr : ∀ c ∈ cs, c.roots = []) :
    ∃ φ', RelW φ' w0 F0 sl (.box cs) ts (.pointer (some ⟨w.heap.size, 0, none⟩)) (w.alloc (.cells c el)) := by
  have hl : ∀ t, ∀ b ∈ φ t, b < w.heap.size := fun t b hb => (h.lt t b hb).1
  refine ⟨setN φ (w.heap.size :: φ none), h.refly ((Ext.alloc w _).mono (by simp)) ?_ ?_ ?_⟩
  · exact List.nodup_cons.2 ⟨fun hm => Nat.lt_irrefl _ (hl none _ hm), h.nd none⟩
  · intro b hb
    have hs : (w.alloc (.cells c el)).heap.size = w.heap.size + 1 := by show (w.heap.push _).size = _; simp
    rcases List.mem_cons.1 hb with rfl | hb
    · exact ⟨by omega, .inr (Nat.le_refl _)⟩
    · exact ⟨by have := hl none b hb; omega, .inl hb⟩
  · refine ⟨hcr, w.heap.size, c, el, φ none, rfl, heap_alloc_self w _, hc.kept (Kept.setN (Ext.alloc w _) (fun b hb => ?_) (hl none) hl), rfl⟩
    rcases List.mem_cons.1 hb with rfl | hb
    · exact .inr (Nat.le_refl _)
    · exact .inl hb

theorem alloc_sound (hT : TbOk P tb) (h : RelW φ w0 F0 sl fx ts fv w) {e ty : TypeId} (hk : (tb e).k ≠ .other) (ρ : Operand → Value) :
    ∃ v w' φ', Yields P (.alloc e) ty ρ w v w' ∧ RelW φ' w0 F0 sl (.box (tb e).zero) ts v w' := by
  obtain ⟨j, z, h1, h2, h3, h4, h5⟩ := info_of hT hk
  have hz : (tb e).zero.all zeroOk = true := by
    have := (hT e).1
    unfold TIok at this
    split at this
    · rename_i h; exact absurd h hk
    · exact this.2.1
  have h' := h.see (v := undef) (x := .dead) trivial
  obtain ⟨φ', hr⟩ := h'.newBox (c := z.cells) (el := e) (cs := (tb e).zero) (by
    rw [h4]
    have : setN φ [] none = [] := rfl
    rw [this]
    exact CVs.zero hz) (fun c hc => by
    have := List.all_eq_true.1 hz c hc
    cases c <;> simp_all [zeroOk, CV.roots])
  exact ⟨_, _, φ', yields_val (s := Instr.alloc e true (.tuple #[])) (fun _ _ _ _ => rfl) (by
    simp [Instr.alloc, Sem.run_bind, run_zeroValue h1 h3, newVar, newRow, newObj]; rfl), hr⟩

theorem box_sound {e ty : TypeId} {o : Operand} {x : SV} {sl' : Sl} {cs : List CV} (h : RelW φ w0 F0 sl fx ts fv w) (hx : opTake tb ty sl o = some (x, sl')) (hb : boxOf x = some cs) :
    ∃ v w' φ', Yields P (.box e o) ty (Act.eval ⟨ts, ds⟩) w v w' ∧ RelW φ' w0 F0 sl' (.box cs) ts v w' := by
  obtain ⟨φ1, h1⟩ := opTake_rel (ds := ds) h hx
  have hv : CVs w φ1 (valAt ts) (Act.eval ⟨ts, ds⟩ o).cells.toList cs (φ1 none) := by
    have hr := h1.slot none x rfl
    simp only [vget] at hr
    generalize Act.eval ⟨ts, ds⟩ o = v at *
    unfold boxOf at hb
    cases x with
    | one r =>
      cases r with
      | agg cs' =>
        simp only [cellsOf] at hb
        split at hb
        · cases hb
          obtain ⟨vs, h2, h3⟩ := hr
          rw [h2]; exact h3
        · cases hb
      | cell c =>
        simp only [cellsOf] at hb
        split at hb
        · rename_i hf
          cases hb
          have hc : v.cells = #[v] := by
            have hr' : CVRel w φ1 (valAt ts) v (φ1 none) c := hr
            cases c with
            | un => simp [CV.free] at hf
            | sc u =>
              obtain ⟨rfl, hs, _⟩ := hr'
              cases v <;> simp_all [isSc, Value.cells]
            | rd d =>
              obtain ⟨_, bs, hr', _⟩ := hr'
              cases hr' with
              | sc hs _ => cases v <;> simp_all [isSc, Value.cells]
              | e0 _ _ => rfl
              | sl _ _ _ _ _ _ _ => rfl
            | own d =>
              have hr' : Rd true w [v] [d] (φ1 none) := hr'
              generalize φ1 none = ψ at hr'
              cases hr' with
              | sc hs _ => cases v <;> simp_all [isSc, Value.cells]
              | e0 _ _ => rfl
              | sl _ _ _ _ _ _ _ => rfl
            | ref s p d => simp [CV.free] at hf
            | sub s p lo d => simp [CV.free] at hf
            | nb es => simp [CV.free] at hf
            | hd s p => simp [CV.free] at hf
            | vl u d =>
              obtain ⟨_, _, bs, hr', _⟩ := hr'
              cases hr' with
              | sc hs _ => cases v <;> simp_all [isSc, Value.cells]
              | e0 _ _ => rfl
              | sl _ _ _ _ _ _ _ => rfl
          rw [hc]
          have := CVs.cons (w := w) (φ := φ1) (f := valAt ts) (show CVRel w φ1 (valAt ts) v (φ1 none) c from hr) .nil
          simpa using this
        · cases hb
    | _ => simp [cellsOf] at hb
  obtain ⟨φ2, h2⟩ := h1.newBox (el := e) hv (fun c hc => by
    unfold boxOf at hb
    split at hb
    · split at hb
      · rename_i hf
        cases hb
        have := List.all_eq_true.1 hf c hc
        cases c <;> simp_all [CV.free, CV.roots]
      · cases hb
    · cases hb)
  exact ⟨_, _, φ2, yields_val (s := Instr.box e (Act.eval ⟨ts, ds⟩ o)) (fun _ _ _ _ => rfl) (by
    simp [Instr.box, newVar, newRow, newObj]; rfl), h2⟩

end

end Go.Proofs.Ytlffmhhdgedddaa.DL

/- The data level, part 7: loads, addresses, arithmetic. -/
namespace Go.Proofs.Ytlffmhhdgedddaa.DL
open Go Go.RowKit

theorem hdr_append (w : World) (F : List Nat) : ∀ (p q : List Nat) (v : Value), hdr w F v (p ++ q) = (hdr w F v p).bind fun u => hdr w F u q
  | [], q, v => rfl
  | j :: p, q, v => by
    simp only [List.cons_append, hdr]
    cases hl : locOf v with
    | none => rfl
    | some bo =>
      obtain ⟨b, o⟩ := bo
      dsimp only
      split
      · cases w.cell? ⟨b, o + j, none⟩ with
        | none => rfl
        | some u => simp only [Option.bind_some]; exact hdr_append w F p q u
      · rfl

theorem Rd.one {o : Bool} {w : World} {v : Value} {sz : Nat} {es : List DV} {bs : List Nat} (h : Rd o w [v] [.sl sz es] bs) :
    (∃ a cap, v = .slice a 0 cap ∧ es = [] ∧ bs = [] ∧ (o = true → cap = 0)) ∨
    ∃ b off n cap us bs1, v = .slice (some ⟨b, off, none⟩) n cap ∧ bs = b :: bs1 ∧ w.rangeAt b off us ∧ (o = true → OwnRow w b (off + cap * sz)) ∧ b < w.heap.size ∧ es.length = n * sz ∧ 0 < sz ∧ n ≤ cap ∧ Rd o w us es bs1 := by
  cases h with
  | e0 h hr =>
    cases hr
    exact .inl ⟨_, _, rfl, rfl, rfl, h⟩
  | sl h1 h2 h3 h4 h5 h6 hr =>
    cases hr
    exact .inr ⟨_, _, _, _, _, _, rfl, by simp, h1, h2, h3, h4, h5.1, h5.2, h6⟩

theorem Rd.path {w : World} {F : List Nat} : ∀ (p : List Nat) {v : Value} {d : DV} {bs : List Nat}, Rd true w [v] [d] bs → (∀ b ∈ bs, b ∈ F) → d.InP p →
    ∃ u χ, hdr w F v p = some u ∧ Rd true w [u] [d.getP p] χ ∧ ∀ b ∈ χ, b ∈ bs
  | [], v, d, bs, h, _, _ => ⟨v, bs, rfl, h, fun _ hb => hb⟩
  | j :: p, v, d, bs, h, hF, hp => by
    obtain ⟨hj, hp⟩ := hp
    cases d with
    | val u => simp [DV.es] at hj
    | sl sz es =>
      simp only [DV.es] at hj hp
      rcases h.one with ⟨a, cap, rfl, rfl, _⟩ | ⟨b, off, n, cap, us, bs1, rfl, rfl, h1, h2, h3, h4, h5, h6, h7⟩
      · simp at hj
      · have hju : j < us.length := by rw [h7.length]; exact hj
        obtain ⟨d', hd', b1, b2, b3, _, hr, _, rfl⟩ := h7.get (j := j) (v := us[j]) (List.getElem?_eq_getElem hju)
        have hd : es.getD j dfl = d' := by simp [List.getD, hd']
        rw [hd] at hp
        obtain ⟨u, χ, g1, g2, g3⟩ := Rd.path p hr (fun b hb => hF b (by simp [hb])) hp
        refine ⟨u, χ, ?_, ?_, fun b hb => by simp [g3 b hb]⟩
        · simp only [hdr, locOf]
          rw [if_pos (hF b (by simp)), h1 j us[j] (List.getElem?_eq_getElem hju)]
          exact g1
        · simp only [DV.getP, DV.es]
          rw [hd]
          exact g2

theorem CVs.get {w : World} {φ : Option Nat → List Nat} {f : Nat → Value} {vs : List Value} {cs : List CV} {ψ : List Nat} (h : CVs w φ f vs cs ψ) {j : Nat} {c : CV} (hj : cs[j]? = some c) :
    ∃ v χ, vs[j]? = some v ∧ CVRel w φ f v χ c ∧ ∀ b ∈ χ, b ∈ ψ := by
  induction h generalizing j with
  | nil => simp at hj
  | cons h1 _ ih =>
    cases j with
    | zero =>
      simp only [List.getElem?_cons_zero, Option.some.injEq] at hj
      subst hj
      exact ⟨_, _, rfl, h1, fun b hb => List.mem_append_left _ hb⟩
    | succ j =>
      simp only [List.getElem?_cons_succ] at hj
      obtain ⟨v, χ, g1, g2, g3⟩ := ih hj
      exact ⟨v, χ, by simpa using g1, g2, fun b hb => List.mem_append_right _ (g3 b hb)⟩

theorem CVs.len {w : World} {φ : Option Nat → List Nat} {f : Nat → Value} {vs : List Value} {cs : List CV} {ψ : List Nat} (h : CVs w φ f vs cs ψ) : vs.length = cs.length := by
  induction h with
  | nil => rfl
  | cons _ _ ih => simp [ih]

/-- Typed data of a cell in memory that nobody writes, or that is owned at the place that sl tells. -/
theorem typed_rel {w : World} {φ : Option Nat → List Nat} {f : Nat → Value} {u : Value} {z : CV} {d : DV} {o : Bool} {χ : List Nat} {mk : DV → CV}
    (hr : Rd o w [u] [d] χ) (hc : ∀ c ∈ (typed z d mk).1, c) (hm : ∀ sz, d = .sl sz d.es → CVRel w φ f u [] (mk (.sl sz d.es))) : CVRel w φ f u [] (typed z d mk).2 := by
  unfold typed at *
  split at hc
  · have hc : d.isI _ := hc _ (List.mem_singleton.2 rfl)
    unfold DV.isI at hc
    rw [hc] at hr
    cases hr with
    | sc h1 h2 => exact ⟨rfl, rfl, rfl⟩
  · have hc : d.isB := hc _ (by simp)
    unfold DV.isB at hc
    rw [hc] at hr
    cases hr with
    | sc h1 h2 => exact ⟨rfl, rfl, rfl⟩
  · have hc : d.isS := hc _ (by simp)
    unfold DV.isS at hc
    rw [hc] at hr
    cases hr with
    | sc h1 h2 => exact ⟨rfl, rfl, rfl⟩
  · have hc : d.isL _ := hc _ (List.mem_singleton.2 rfl)
    exact hm _ hc
  · exact (hc False (by simp)).elim

section
variable {P : Program} {tb : Tb} {φ : Option Nat → List Nat} {w0 w w' : World} {F0 : List Nat} {sl : Sl} {fx : SV} {ts : Array Value} {fv : Value} {ds : List Deferred}

theorem hdr_last {F : List Nat} {v h u : Value} {q : List Nat} {j b o : Nat} (hh : hdr w F v q = some h) (hl : locOf h = some (b, o)) (hu : hdr w F v (q ++ [j]) = some u) :
    w.cell? ⟨b, o + j, none⟩ = some u := by
  rw [hdr_append, hh] at hu
  simp only [Option.bind_some, hdr, hl] at hu
  split at hu
  · cases hc : w.cell? ⟨b, o + j, none⟩ with
    | none => simp [hc] at hu
    | some x => simpa [hc] using hu
  · cases hu

/-- One cell, loaded from a place. -/
theorem loadC_sound (h : RelW φ w0 F0 sl fx ts fv w) {s : Nat} {q : List Nat} {j : Nat} {z c : CV} {cs : List Prop} {hv : Value} {b o : Nat}
    (hh : hdr w (φ (some s)) (valAt ts s) q = some hv) (hl : locOf hv = some (b, o))
    (hx : loadC s (q ++ [j]) z (gt sl s) = some (cs, c)) (hc : ∀ p ∈ cs, p) : ∃ u, w.cell? ⟨b, o + j, none⟩ = some u ∧ CVRel w φ (valAt ts) u [] c := by
  have hr := gt_rel h s
  unfold loadC at hx
  generalize gt sl s = x at *
  have viaOwn : ∀ (d : DV) (v1 : Value) (ψ1 : List Nat) (p : List Nat), Rd true w [v1] [d] ψ1 → (∀ b ∈ ψ1, b ∈ φ (some s)) → hdr w (φ (some s)) (valAt ts s) (q ++ [j]) = hdr w (φ (some s)) v1 p → d.InP p →
      (∀ pr ∈ (typed z (d.getP p) (.ref s (q ++ [j]))).1, pr) → c = (typed z (d.getP p) (.ref s (q ++ [j]))).2 → ∃ u, w.cell? ⟨b, o + j, none⟩ = some u ∧ CVRel w φ (valAt ts) u [] c := by
    intro d v1 ψ1 p h1 h2 h3 h4 h5 h6
    obtain ⟨u, χ, g1, g2, g3⟩ := Rd.path p h1 h2 h4
    rw [← h3] at g1
    refine ⟨u, hdr_last hh hl g1, ?_⟩
    rw [h6]
    refine typed_rel g2 h5 fun sz hsz => ⟨rfl, g1, χ, ?_, fun b hb => h2 b (g3 b hb)⟩
    rw [← hsz]
    exact g2.weaken
  cases x with
  | one r =>
    cases r with
    | agg cs' => simp [getAt] at hx
    | cell c' =>
      cases c' with
      | own d =>
        simp only [getAt, Option.some.injEq, Prod.mk.injEq] at hx
        obtain ⟨rfl, rfl⟩ := hx
        have hp := hc _ (List.mem_cons_self ..)
        exact viaOwn d (valAt ts s) _ (q ++ [j]) hr (fun _ hb => hb) rfl hp (fun p hp => hc p (List.mem_cons_of_mem _ hp)) rfl
      | _ => simp [getAt] at hx
  | box cs' =>
    obtain ⟨-, b', c', el, ψs, h1, h2, h3, h4⟩ := hr
    cases q with
    | nil =>
      simp only [hdr, Option.some.injEq] at hh
      subst hh
      rw [h1] at hl
      simp only [locOf, Option.some.injEq, Prod.mk.injEq] at hl
      obtain ⟨rfl, rfl⟩ := hl
      simp only [List.nil_append, getAt] at hx
      have hcell : w.cell? ⟨b', 0 + j, none⟩ = c'[j]? := by simp [World.cell?, h2]
      cases hj : cs'[j]? with
      | none => simp [List.getD, hj] at hx
      | some c0 =>
        obtain ⟨u, χ, g1, g2, g3⟩ := h3.get hj
        simp only [List.getD, hj, Option.getD_some] at hx
        refine ⟨u, by rw [hcell]; simpa using g1, ?_⟩
        cases c0 with
        | un => simp at hx
        | sc u' => simp at hx; rw [← hx.2]; exact ⟨g2.1, g2.2.1, rfl⟩
        | rd d => simp at hx; rw [← hx.2]; exact ⟨rfl, g2.2⟩
        | vl v d => simp at hx; rw [← hx.2]; exact ⟨rfl, g2.2⟩
        | own d =>
          simp at hx
          rw [← hx.2]
          refine ⟨rfl, ?_⟩
          simp only [hdr, h1, locOf]
          rw [if_pos (by rw [h4]; exact List.mem_cons_self ..), hcell]
          have : c'[j]? = some u := by simpa using g1
          rw [this]; rfl
        | ref s' p' d' => simp at hx
        | sub s' p' l' d' => simp at hx
        | nb es => simp at hx
        | hd s' p' => simp at hx
    | cons i q =>
      simp only [List.cons_append, getAt] at hx
      cases hj : cs'[i]? with
      | none => simp [List.getD, hj] at hx
      | some c0 =>
        obtain ⟨u1, χ1, g1, g2, g3⟩ := h3.get hj
        simp only [List.getD, hj, Option.getD_some] at hx
        cases c0 with
        | own d =>
          have hx' : some (placeOk (.box cs') (i :: (q ++ [j])) :: (typed z (d.getP (q ++ [j])) (.ref s (i :: (q ++ [j])))).1, (typed z (d.getP (q ++ [j])) (.ref s (i :: (q ++ [j])))).2) = some (cs, c) := by
            rw [← hx]
            cases q <;> rfl
          simp only [Option.some.injEq, Prod.mk.injEq] at hx'
          obtain ⟨rfl, rfl⟩ := hx'
          have hp := hc _ (List.mem_cons_self ..)
          simp only [placeOk, List.getD, hj, Option.getD_some] at hp
          refine viaOwn d u1 χ1 (q ++ [j]) g2 (fun b hb => by rw [h4]; exact List.mem_cons_of_mem _ (g3 b hb)) ?_ hp.2 (fun p hp => hc p (List.mem_cons_of_mem _ hp)) rfl
          simp only [List.cons_append, hdr, h1, locOf]
          rw [if_pos (by rw [h4]; exact List.mem_cons_self ..)]
          have hcell : w.cell? ⟨b', 0 + i, none⟩ = some u1 := by simp [World.cell?, h2]; simpa using g1
          rw [hcell]; rfl
        | _ => cases q <;> simp at hx
  | _ => simp [getAt] at hx

theorem loadCs_sound (h : RelW φ w0 F0 sl fx ts fv w) {s : Nat} {q : List Nat} {hv : Value} {b o : Nat}
    (hh : hdr w (φ (some s)) (valAt ts s) q = some hv) (hl : locOf hv = some (b, o)) :
    ∀ (zs : List CV) (j : Nat) (cs : List Prop) (xs : List CV), loadCs (gt sl s) s q j zs = some (cs, xs) → (∀ p ∈ cs, p) →
      ∃ us, us.length = zs.length ∧ w.rangeAt b (o + j) us ∧ CVs w φ (valAt ts) us xs []
  | [], j, cs, xs, hx, _ => by
    simp only [loadCs, Option.some.injEq, Prod.mk.injEq] at hx
    rw [← hx.2]
    exact ⟨[], rfl, fun k v hk => by simp at hk, .nil⟩
  | z :: zs, j, cs, xs, hx, hc => by
    simp only [loadCs] at hx
    split at hx
    · rename_i c v cs' vs h1 h2
      simp only [Option.some.injEq, Prod.mk.injEq] at hx
      obtain ⟨rfl, rfl⟩ := hx
      obtain ⟨u, g1, g2⟩ := loadC_sound h hh hl h1 fun p hp => hc p (List.mem_append_left _ hp)
      obtain ⟨us, g3, g4, g5⟩ := loadCs_sound h hh hl zs (j + 1) cs' vs h2 fun p hp => hc p (List.mem_append_right _ hp)
      refine ⟨u :: us, by simp [g3], fun k v hk => ?_, by simpa using CVs.cons g2 g5⟩
      cases k with
      | zero => simp at hk; subst hk; simpa using g1
      | succ k =>
        have := g4 k v (by simpa using hk)
        rw [← this]
        congr 2
        omega
    · cases hx

theorem loadRs_sound {vs : List Value} {es : List DV} {bs : List Nat} (hr : Rd false w vs es bs) (hb : ∀ b ∈ bs, ∀ t, b ∉ φ t) :
    ∀ (zs : List CV), zs.length ≤ es.length → (∀ p ∈ (loadRs es zs).1, p) → CVs w φ (valAt ts) (vs.take zs.length) (loadRs es zs).2 [] := by
  intro zs
  induction zs generalizing vs es bs with
  | nil => intro _ _; simpa [loadRs] using CVs.nil
  | cons z zs ih =>
    intro hl hc
    cases es with
    | nil => simp at hl
    | cons d es =>
      cases vs with
      | nil => have := hr.length; simp at this
      | cons v vs =>
        obtain ⟨b1, b2, h1, h2, rfl⟩ := hr.split 1
        simp only [List.take_succ_cons, List.take_zero, List.drop_succ_cons, List.drop_zero] at h1 h2
        simp only [loadRs, List.tail_cons] at hc ⊢
        have hd : hdD (d :: es) = d := rfl
        rw [hd] at hc ⊢
        have := CVs.cons (typed_rel (φ := φ) (f := valAt ts) h1 (fun p hp => hc p (List.mem_append_left _ hp)) fun sz hsz =>
          ⟨rfl, b1, by rw [← hsz]; exact h1, fun b hb' => hb b (List.mem_append_left _ hb')⟩)
          (ih h2 (fun b hb' => hb b (List.mem_append_right _ hb')) (by simpa using hl) fun p hp => hc p (List.mem_append_right _ hp))
        simpa using this

end

end Go.Proofs.Ytlffmhhdgedddaa.DL

/- The data level, part 8: the local operations, one by one. -/
namespace Go.Proofs.Ytlffmhhdgedddaa.DL
open Go Go.RowKit

theorem CVs.single {w : World} {φ : Option Nat → List Nat} {f : Nat → Value} {us : List Value} {c : CV} {ψ : List Nat} (h : CVs w φ f us [c] ψ) : ∃ v, us = [v] ∧ CVRel w φ f v ψ c := by
  generalize hcs : [c] = cs at h
  cases h with
  | nil => cases hcs
  | @cons v c' ψ1 vs cs' ψ2 h1 h2 =>
    cases hcs
    generalize hn : ([] : List CV) = ns at h2
    cases h2 with
    | nil => exact ⟨v, rfl, by simpa using h1⟩
    | cons _ _ => cases hn

section
variable {P : Program} {tb : Tb} {φ : Option Nat → List Nat} {w0 w w' : World} {F0 : List Nat} {sl : Sl} {fx : SV} {ts : Array Value} {fv : Value} {ds : List Deferred}

/-- What is asked of each operation. -/
def Sound (P : Program) (w0 : World) (F0 : List Nat) (ts : Array Value) (ds : List Deferred) (w : World) (op : Op) (ty : TypeId) (x : SV) (sl' : Sl) : Prop :=
  ∃ v w' φ', Yields P op ty (Act.eval ⟨ts, ds⟩) w v w' ∧ RelW φ' w0 F0 sl' x ts v w'

theorem tiOf (hT : TbOk P tb) {t : TypeId} {k : TK} (hk : (tb t).k = k) : TIok P t ⟨k, (tb t).size, (tb t).zero, (tb t).bytes, (tb t).szs, (tb t).eq⟩ := by
  have := (hT t).1
  rw [← hk]
  exact this

theorem run_loadAt_one {t : TypeId} {d : TypeDesc} {a : Addr} {u : Value} (hu : P.underlying t = some d) (hd : d.isRow = false) (hc : w.cell? a = some u) :
    (Instr.loadAt t (.pointer (some a))).run P w = .ok u w := by
  have hagg : (isAgg t).run P w = .ok false w := by
    unfold isAgg
    rw [Sem.run_bind, run_underlying hu w]
    cases d <;> simp_all
  simp [Instr.loadAt, Instr.sureAddr, loadVar, Sem.run_bind, hagg, load, Sem.run, hc]

theorem load_run (hT : TbOk P tb) {t : TypeId} {b o : Nat} {us : List Value} {cs : List CV} {r : RV} (hlen : us.length = (tb t).zero.length) (hr : w.rangeAt b o us)
    (hc : CVs w φ (valAt ts) us cs []) (hw : wrapCs (tb t).k cs = some r) :
    ∃ v, (Instr.loadAt t (.pointer (some ⟨b, o, none⟩))).run P w = .ok v w ∧ RVRel w φ (valAt ts) v [] r := by
  have agg : ∀ d, P.underlying t = some d → d.isRow = true → r = .agg cs → (P.info? t).map (·.size) = some us.length → ∃ v, (Instr.loadAt t (.pointer (some ⟨b, o, none⟩))).run P w = .ok v w ∧ RVRel w φ (valAt ts) v [] r := by
    intro d h1 h2 h3 h4
    refine ⟨.agg us.toArray, run_loadAt_mid w b o t us d hr h1 h2 h4, ?_⟩
    rw [h3]
    exact ⟨us.toArray, rfl, by simpa using hc⟩
  have one : ∀ d, P.underlying t = some d → d.isRow = false → (∃ c, cs = [c] ∧ r = .cell c) → ∃ v, (Instr.loadAt t (.pointer (some ⟨b, o, none⟩))).run P w = .ok v w ∧ RVRel w φ (valAt ts) v [] r := by
    rintro d h1 h2 ⟨c, rfl, rfl⟩
    obtain ⟨v, rfl, h3⟩ := hc.single
    exact ⟨v, run_loadAt_one h1 h2 (by simpa using hr 0 v rfl), h3⟩
  have := (hT t).1
  unfold TIok at this
  have cellOf : (match cs with | [c] => some (RV.cell c) | _ => none) = some r → ∃ c, cs = [c] ∧ r = .cell c := fun hw => by
    split at hw
    · cases hw; exact ⟨_, rfl, rfl⟩
    · cases hw
  have size : (∃ j z, P.info? t = some j ∧ j.size = (tb t).size ∧ j.zero = some z ∧ z.cells.toList = (tb t).zero.map zeroV ∧ j.bytes = (tb t).bytes) → (tb t).zero.length = (tb t).size → (P.info? t).map (·.size) = some us.length := by
    rintro ⟨j, z, h1, h2, _⟩ h3
    rw [h1]; simp [h2, hlen, h3]
  cases hk : (tb t).k with
  | other => rw [hk] at hw; cases hw
  | int k => rw [hk] at this hw; exact one _ this.2.2.2.2.1 rfl (cellOf hw)
  | bool => rw [hk] at this hw; exact one _ this.2.2.2.2.1 rfl (cellOf hw)
  | string => rw [hk] at this hw; exact one _ this.2.2.2.2.1 rfl (cellOf hw)
  | slice e => rw [hk] at this hw; exact one _ this.2.2.2.2.1 rfl (cellOf hw)
  | struct offs => rw [hk] at this; obtain ⟨h1, _, h3, _, fs, h5, _, _⟩ := this; rw [hk] at hw; exact agg _ h5 rfl (by cases hw; rfl) (size h1 h3)
  | array n e => rw [hk] at this; obtain ⟨h1, _, h3, _, h5⟩ := this; rw [hk] at hw; exact agg _ h5 rfl (by cases hw; rfl) (size h1 h3)

theorem hdR_rel {f : Nat → Value} {v : Value} {ψ : List Nat} {x : SV} {q : List Nat} {r : RV} (h : RVRel w φ f v ψ r) : RVRel w φ f v ψ (hdR x q r) := by
  unfold hdR
  split
  · exact ⟨h.1, h.2.1⟩
  · exact h
theorem load_sound (hT : TbOk P tb) (h : RelW φ w0 F0 sl fx ts fv w) {t ty : TypeId} {a : Operand} {p x : SV} {cs : List Prop}
    (hp : opView tb ty sl a = some p) (hl : loadV tb t sl p = some (cs, x)) (hc : ∀ c ∈ cs, c) : Sound P w0 F0 ts ds w (.load t a) ty x sl := by
  unfold loadV at hl
  cases p with
  | ptr s q j =>
    obtain ⟨-, hv, b, o, h2, h3, h5⟩ := opView_rel (ds := ds) h hp rfl
    simp only at hl
    split at hl
    · rename_i c ys hcs
      simp only [Option.map_eq_some_iff, Prod.mk.injEq] at hl
      obtain ⟨r, hr, rfl, rfl⟩ := hl
      obtain ⟨us, g1, g2, g3⟩ := loadCs_sound h h2 h3 _ _ _ _ hcs hc
      obtain ⟨v, k1, k2⟩ := load_run hT g1 g2 g3 hr
      exact ⟨v, w, _, yields_val (s := Instr.loadAt t (Act.eval ⟨ts, ds⟩ a)) (fun _ _ _ _ => rfl) (by rw [h5]; exact k1), h.see (x := .one (hdR (gt sl s) q r)) (hdR_rel k2)⟩
    · cases hl
  | rptr es =>
    obtain ⟨-, b, o, vs, bs, h1, h2, h3, h4, h5, h6⟩ := opView_rel (ds := ds) h hp rfl
    simp only [Option.map_eq_some_iff, Prod.mk.injEq] at hl
    obtain ⟨r, hr, rfl, rfl⟩ := hl
    have hle := hc _ (List.mem_cons_self ..)
    have hsz : (tb t).zero.length = (tb t).size := by
      have := (hT t).1
      unfold TIok at this
      split at this
      · rename_i hk; rw [hk] at hr; simp [wrapCs] at hr
      · exact this.2.2.1
    have g3 := loadRs_sound (φ := φ) (ts := ts) h4 h6 (tb t).zero (by rw [hsz]; exact hle) fun p hp => hc p (List.mem_cons_of_mem _ hp)
    have g1 : (vs.take (tb t).zero.length).length = (tb t).zero.length := by rw [List.length_take, h4.length]; omega
    obtain ⟨v, k1, k2⟩ := load_run hT g1 (b := b) (o := o) (w := w) (fun k v hk => h2 k v (by
      rw [List.getElem?_take] at hk
      split at hk
      · exact hk
      · cases hk)) g3 hr
    exact ⟨v, w, _, yields_val (s := Instr.loadAt t (Act.eval ⟨ts, ds⟩ a)) (fun _ _ _ _ => rfl) (by rw [h1]; exact k1), h.see (x := .one r) k2⟩
  | _ => cases hl

theorem move_sound (h : RelW φ w0 F0 sl fx ts fv w) {ty : TypeId} {o : Operand} {cs : List Prop} {x : SV} {sl' : Sl} (hx : opV tb sl ty (.move o) = some (cs, x, sl')) :
    Sound P w0 F0 ts ds w (.move o) ty x sl' := by
  have see : ∀ y, opView tb ty sl o = some y → flat y = true → x = y → sl' = sl → Sound P w0 F0 ts ds w (.move o) ty x sl' := by
    rintro y h1 h2 rfl rfl
    exact ⟨_, w, _, yields_pure (fun _ _ _ _ => rfl), h.see (opView_rel h h1 h2)⟩
  cases o with
  | tmp t =>
    simp only [opV] at hx
    have tk : takeT sl t = (x, sl') → Sound P w0 F0 ts ds w (.move (.tmp t)) ty x sl' := fun e => by
      obtain ⟨φ', hr⟩ := h.take t
      rw [e] at hr
      exact ⟨_, w, φ', yields_pure (fun _ _ _ _ => rfl), hr⟩
    split at hx
    · simp only [Option.some.injEq, Prod.mk.injEq] at hx
      exact tk hx.2
    · simp only [Option.some.injEq, Prod.mk.injEq] at hx
      exact tk hx.2
    · rename_i d e
      simp only [Option.some.injEq, Prod.mk.injEq] at hx
      obtain ⟨-, rfl, rfl⟩ := hx
      exact ⟨_, w, _, yields_pure (fun _ _ _ _ => rfl), h.see (x := .one (.cell (.hd t []))) ⟨rfl, rfl⟩⟩
    · rename_i c hn e
      simp only [Option.some.injEq, Prod.mk.injEq] at hx
      obtain ⟨-, rfl, rfl⟩ := hx
      have hg := gt_rel h t
      rw [e] at hg
      have hno : c.isOwn = false := by
        cases c with
        | own d => exact (hn d rfl).elim
        | _ => rfl
      exact ⟨_, w, _, yields_pure (fun _ _ _ _ => rfl), h.see (x := .one (.cell c)) (CVRel.bare hg hno)⟩
    · rename_i n1 n2 n3 n4
      simp only [Option.some.injEq, Prod.mk.injEq] at hx
      refine see _ rfl ?_ hx.2.1.symm hx.2.2.symm
      unfold view
      generalize gt sl t = y at *
      cases y with
      | one r => cases r with
        | cell c => exact absurd rfl (n4 c)
        | agg cs => exact absurd rfl (n2 cs)
      | tup rs => exact absurd rfl (n1 rs)
      | _ => rfl
  | const v =>
    simp only [opV, Option.map_eq_some_iff, Prod.mk.injEq] at hx
    obtain ⟨y, h1, -, rfl, rfl⟩ := hx
    refine see _ h1 ?_ rfl rfl
    simp only [opView] at h1
    unfold constSV at h1
    split at h1
    · cases h1; rfl
    · cases h1; rfl
    · cases h1; rfl
    · split at h1
      · cases h1; rfl
      · cases h1
    · cases h1; rfl
    · cases h1
  | func f =>
    simp only [opV, Option.map_eq_some_iff, Prod.mk.injEq] at hx
    obtain ⟨y, h1, -, rfl, rfl⟩ := hx
    simp only [opView, Option.some.injEq] at h1
    subst h1
    exact see _ rfl rfl rfl rfl
  | global g => simp [opV, opView] at hx

theorem assign_sound (h : RelW φ w0 F0 sl fx ts fv w) {ty : TypeId} {o : Operand} {x : SV} {sl' : Sl} (hx : opTake tb ty sl o = some (x, sl')) :
    Sound P w0 F0 ts ds w (.assign o) ty x sl' := by
  obtain ⟨φ', hr⟩ := opTake_rel (ds := ds) h hx
  exact ⟨_, w, φ', yields_pure (fun _ _ _ _ => rfl), hr⟩

theorem sameK_eq {k k' : IntKind} (h : sameK k k' = true) : k = k' := by cases k <;> cases k' <;> simp_all [sameK]

theorem intV_run {op : BinOp} {t : TypeId} {k : IntKind} {a b : Int} {r : Value} {cs : List Prop} (h : intV op k a b = some (cs, r)) (hc : ∀ c ∈ cs, c) :
    (binOp op t (.int k a) (.int k b)).run P w = .ok r w ∧ isSc r = true := by
  cases op <;> simp only [intV, Option.some.injEq, Prod.mk.injEq, reduceCtorEq] at h
  case quo | rem =>
    obtain ⟨rfl, rfl⟩ := h
    have hb := hc _ (List.mem_singleton.2 rfl)
    exact ⟨by simp [binOp, Op.intDiv, hb], rfl⟩
  all_goals
    obtain ⟨rfl, rfl⟩ := h
    refine ⟨?_, rfl⟩
    simp only [binOp, ne_eq, not_true_eq_false, if_false, Op.intArith, Op.intBits, Op.intCmp]
    rfl

theorem binV_run (hT : TbOk P tb) {op : BinOp} {t : TypeId} {u v r : Value} {cs : List Prop} (h : binV op (tb t).k u v = some (cs, r)) (hc : ∀ c ∈ cs, c) :
    (binOp op t u v).run P w = .ok r w ∧ isSc r = true := by
  unfold binV at h
  split at h
  · rename_i k a k' b
    split at h
    · simp only [Option.some.injEq, Prod.mk.injEq] at h
      obtain ⟨rfl, rfl⟩ := h
      have hb := hc _ (List.mem_singleton.2 rfl)
      exact ⟨by simp [binOp, Op.shift, Int.not_lt.2 hb], rfl⟩
    · simp only [Option.some.injEq, Prod.mk.injEq] at h
      obtain ⟨rfl, rfl⟩ := h
      have hb := hc _ (List.mem_singleton.2 rfl)
      exact ⟨by simp [binOp, Op.shift, Int.not_lt.2 hb], rfl⟩
    · split at h
      · rename_i hk
        have hk := sameK_eq hk
        subst hk
        exact intV_run h hc
      · cases h
  · rename_i a b
    have hu : (tb t).k = .bool → ∀ n, (Op.equalIn (n + 1) t (.bool a) (.bool b)).run P w = .ok (decide (a = b)) w := fun hk n => by
      have := tiOf hT hk
      have hu : P.underlying t = some .bool := this.2.2.2.2.1
      simp only [Op.equalIn, Sem.run_bind, run_underlying hu, Result.andThen_ok]
      cases a <;> cases b <;> rfl
    split at h
    · rename_i hk
      cases h
      refine ⟨?_, rfl⟩
      simp only [binOp, Op.equal, Op.maxDepth, Sem.run_bind, hu hk 9999, Result.andThen_ok]
      rfl
    · rename_i hk
      cases h
      refine ⟨?_, rfl⟩
      simp only [binOp, Op.equal, Op.maxDepth, Sem.run_bind, hu hk 9999, Result.andThen_ok]
      rfl
    · cases h
  · rename_i a b
    have he : (a.toList == b.toList) = decide (a.toList = b.toList) := by rw [Bool.eq_iff_iff]; simp
    split at h
    · cases h; exact ⟨by simp [binOp, Op.stringOp, he], rfl⟩
    · cases h; exact ⟨by simp [binOp, Op.stringOp, he], rfl⟩
    · cases h
      have hb := hc _ (List.mem_singleton.2 rfl)
      exact ⟨by simp only [binOp, Op.stringOp]; rw [if_neg (by show ¬ ((a.size + b.size : Nat) : Int) > 9223372036854775807; omega)]; rfl, rfl⟩
    · cases h
  · cases h

theorem unV_run {op : UnOp} {u r : Value} (h : unV op u = some r) : (Op.unary op u).run P w = .ok r w ∧ isSc r = true := by
  unfold unV at h
  split at h
  · split at h
    · cases h; exact ⟨rfl, rfl⟩
    · cases h
  · split at h
    · cases h; exact ⟨rfl, rfl⟩
    · cases h
  · cases h

theorem bin_sound (hT : TbOk P tb) (h : RelW φ w0 F0 sl fx ts fv w) {op : BinOp} {xt yt ty : TypeId} {x y : Operand} {u v r : Value} {cs : List Prop}
    (hx : opView tb ty sl x = some (.one (.cell (.sc u)))) (hy : opView tb ty sl y = some (.one (.cell (.sc v)))) (hb : binV op (tb xt).k u v = some (cs, r)) (hc : ∀ c ∈ cs, c) :
    Sound P w0 F0 ts ds w (.binOp op xt x y yt) ty (.one (.cell (.sc r))) sl := by
  obtain ⟨e1, s1⟩ := opView_sc (ds := ds) h hx
  obtain ⟨e2, s2⟩ := opView_sc (ds := ds) h hy
  obtain ⟨g1, g2⟩ := binV_run (w := w) hT hb hc
  have hg : (eqGuard op xt x y u v).run P w = .ok () w := by
    unfold eqGuard
    cases op <;> first | rfl | (cases u <;> first | rfl | (cases v <;> first | rfl | simp [isSc] at s1))
  refine ⟨r, w, _, fun dst pos after guard => .inl ?_, h.see (x := .one (.cell (.sc r))) ⟨rfl, g2, rfl⟩⟩
  simp only [execOp, e1, e2, Sem.run_bind, hg, g1, Result.andThen_ok]
  rfl

theorem un_sound (h : RelW φ w0 F0 sl fx ts fv w) {op : UnOp} {xt ty : TypeId} {x : Operand} {u r : Value}
    (hx : opView tb ty sl x = some (.one (.cell (.sc u)))) (hb : unV op u = some r) : Sound P w0 F0 ts ds w (.unOp op xt x) ty (.one (.cell (.sc r))) sl := by
  obtain ⟨e1, s1⟩ := opView_sc (ds := ds) h hx
  obtain ⟨g1, g2⟩ := unV_run (P := P) (w := w) hb
  exact ⟨r, w, _, yields_val (s := Op.unary op (Act.eval ⟨ts, ds⟩ x)) (fun _ _ _ _ => rfl) (by rw [e1]; exact g1), h.see (x := .one (.cell (.sc r))) ⟨rfl, g2, rfl⟩⟩

end

end Go.Proofs.Ytlffmhhdgedddaa.DL

/- The data level, part 9: conversions, addresses, cuts, new slices. -/
namespace Go.Proofs.Ytlffmhhdgedddaa.DL
open Go Go.RowKit

section
variable {P : Program} {tb : Tb} {φ : Option Nat → List Nat} {w0 w w' : World} {F0 : List Nat} {sl : Sl} {fx : SV} {ts : Array Value} {fv : Value} {ds : List Deferred}

theorem under_of (hT : TbOk P tb) {t : TypeId} : (∀ k, (tb t).k = .int k → P.underlying t = some (.int k)) ∧ (∀ e, (tb t).k = .slice e → P.underlying t = some (.slice e)) ∧
    (∀ offs, (tb t).k = .struct offs → ∃ fs, P.underlying t = some (.struct fs) ∧ fs.toList.map (·.offset) = offs ∧ (fs.toList.all fun f => (P.info? f.type).any fun j => j.size != 0) = true) ∧ (∀ n e, (tb t).k = .array n e → P.underlying t = some (.array n e)) := by
  have := (hT t).1
  unfold TIok at this
  refine ⟨fun k hk => ?_, fun e hk => ?_, fun o hk => ?_, fun n e hk => ?_⟩ <;> rw [hk] at this
  · exact this.2.2.2.2.1
  · exact this.2.2.2.2.1
  · obtain ⟨fs, h1, h2, h3, _⟩ := this.2.2.2.2
    exact ⟨fs, h1, h2, h3⟩
  · exact this.2.2.2.2

theorem size_of (hT : TbOk P tb) {t : TypeId} (hk : (tb t).k ≠ .other) : (sizeOf t).run P w = .ok (tb t).size w ∧ 0 < (tb t).size ∧ (tb t).zero.length = (tb t).size := by
  obtain ⟨j, z, h1, h2, _⟩ := info_of hT hk
  refine ⟨by simp [sizeOf, typeInfo, h1, h2], ?_⟩
  have := (hT t).1
  unfold TIok at this
  split at this
  · rename_i h; exact absurd h hk
  · exact ⟨this.2.2.2.1, this.2.2.1⟩

theorem conv_sound (hT : TbOk P tb) (h : RelW φ w0 F0 sl fx ts fv w) {src dst ty : TypeId} {x : Operand} {u r : Value}
    (hx : opView tb ty sl x = some (.one (.cell (.sc u)))) (hs : ∃ k, (tb src).k = .int k) (hb : conV (tb dst).k u = some r) : Sound P w0 F0 ts ds w (.convert src dst x) ty (.one (.cell (.sc r))) sl := by
  obtain ⟨e1, s1⟩ := opView_sc (ds := ds) h hx
  obtain ⟨ks, hks⟩ := hs
  unfold conV at hb
  split at hb
  · rename_i k n
    split at hb
    · rename_i k' hk
      cases hb
      refine ⟨_, w, _, yields_val (s := convert src dst (Act.eval ⟨ts, ds⟩ x)) (fun _ _ _ _ => rfl) ?_, h.see (x := .one (.cell (.sc _))) ⟨rfl, rfl, rfl⟩⟩
      rw [e1]
      simp only [convert, Sem.run_bind, run_underlying ((under_of hT).1 ks hks), run_underlying ((under_of hT).1 k' hk), Result.andThen_ok]
      rfl
    · cases hb
  · cases hb

theorem Addr_add (b o n : Nat) : (⟨b, o, none⟩ : Addr).add n = ⟨b, o + n, none⟩ := Addr.add_mid b o n

theorem field_run (hT : TbOk P tb) {t : TypeId} {offs : List Nat} (hk : (tb t).k = .struct offs) {f b o : Nat} (hf : f < offs.length) :
    (Instr.fieldAt t (.pointer (some ⟨b, o, none⟩)) f).run P w = .ok (.pointer (some ⟨b, o + offs.getD f 0, none⟩)) w := by
  obtain ⟨fs, h1, h2, h3⟩ := (under_of hT).2.2.1 offs hk
  have hfl : f < fs.size := by rw [← h2] at hf; simpa using hf
  have hfe : fs[f]? = some fs[f] := Array.getElem?_eq_getElem hfl
  have hsz := (List.all_eq_true.1 h3) fs[f] (by simp)
  cases hj : P.info? fs[f].type with
  | none => simp [hj] at hsz
  | some j =>
    have hne : j.size ≠ 0 := by simpa [hj] using hsz
    have ho : offs.getD f 0 = fs[f].offset := by rw [← h2]; simp [List.getD, hfl]
    rw [ho]
    simp [Instr.fieldAt, Sem.run_bind, run_underlying h1, hfe, Instr.sureAddr, fieldPlace, sizeOf, typeInfo, hj, hne, Addr_add]

theorem sound_see (h : RelW φ w0 F0 sl fx ts fv w) {op : Op} {ty : TypeId} {v : Value} {x : SV} (hy : Yields P op ty (Act.eval ⟨ts, ds⟩) w v w) (hr : SlotRel w φ (valAt ts) v [] x) :
    Sound P w0 F0 ts ds w op ty x sl := ⟨v, w, _, hy, h.see hr⟩

theorem not_other (hT : TbOk P tb) {e : TypeId} (h : 0 < (tb e).size) : (tb e).k ≠ .other := fun hk => by
  have := (hT e).1
  unfold TIok at this
  rw [hk] at this
  have : (tb e).size = 0 := this
  omega

theorem field_sound (hT : TbOk P tb) (h : RelW φ w0 F0 sl fx ts fv w) {t ty : TypeId} {x : Operand} {f : Nat} {cs : List Prop} {r : SV} {sl' : Sl}
    (hx : opV tb sl ty (.fieldAddr t x f) = some (cs, r, sl')) : Sound P w0 F0 ts ds w (.fieldAddr t x f) ty r sl' := by
  simp only [opV] at hx
  split at hx
  · rename_i offs s q j hk hp
    split at hx
    · rename_i hf
      cases hx
      obtain ⟨-, hv, b, o, h2, h3, h5⟩ := opView_rel (ds := ds) h hp rfl
      exact sound_see h (yields_val (s := Instr.fieldAt t (Act.eval ⟨ts, ds⟩ x) f) (fun _ _ _ _ => rfl) (by rw [h5]; exact field_run hT hk hf))
        ⟨rfl, hv, b, o, h2, h3, by rw [Nat.add_assoc]⟩
    · cases hx
  · rename_i offs es hk hp
    split at hx
    · rename_i hf
      cases hx
      obtain ⟨-, b, o, vs, bs, h1, h2, h3, h4, h5, h6⟩ := opView_rel (ds := ds) h hp rfl
      obtain ⟨b1, b2, g1, g2, rfl⟩ := h4.split (offs.getD f 0)
      refine sound_see h (yields_val (s := Instr.fieldAt t (Act.eval ⟨ts, ds⟩ x) f) (fun _ _ _ _ => rfl) (by rw [h1]; exact field_run hT hk hf)) ⟨rfl, b, _, vs.drop (offs.getD f 0), b2, rfl, fun k v hk => ?_, h3, g2, h5, fun b' hb => h6 b' (List.mem_append_right _ hb)⟩
      rw [List.getElem?_drop] at hk
      rw [Nat.add_assoc]
      exact h2 _ _ hk
    · cases hx
  · cases hx

/-- An element's address. -/
theorem index_run (hT : TbOk P tb) {t e : TypeId} (hk : (tb t).k = .slice e) (he : (tb e).k ≠ .other) {b off n cap : Nat} {k : IntKind} {i : Int} (h0 : 0 ≤ i) (hi : i < n) :
    (Instr.indexAt t (.slice (some ⟨b, off, none⟩) n cap) (.int k i)).run P w = .ok (.pointer (some ⟨b, off + i.toNat * (tb e).size, none⟩)) w := by
  have hu := (under_of hT).2.1 e hk
  simp only [Instr.indexAt, asIntOf, Sem.run_bind, Sem.run_pure, Result.andThen_ok, run_underlying hu]
  rw [if_pos ⟨h0, hi⟩]
  simp only [Sem.run_bind, (size_of hT he).1, Result.andThen_ok, Addr_add]
  rfl

theorem n_of {o : Bool} {v : Value} {sz : Nat} {es : List DV} {bs : List Nat} (h : Rd o w [v] [.sl sz es] bs) (hn : 0 < (DV.sl sz es).n) :
    ∃ b off n cap us bs1, v = .slice (some ⟨b, off, none⟩) n cap ∧ bs = b :: bs1 ∧ w.rangeAt b off us ∧ (o = true → OwnRow w b (off + cap * sz)) ∧ b < w.heap.size ∧ es.length = n * sz ∧ 0 < sz ∧ n ≤ cap ∧ Rd o w us es bs1 ∧ (DV.sl sz es).n = n := by
  rw [DV.n_eq] at hn
  rcases h.one with ⟨a, cap, rfl, rfl, _⟩ | ⟨b, off, n, cap, us, bs1, rfl, rfl, h1, h2, h3, h4, h5, h6, h7⟩
  · simp at hn
  · exact ⟨b, off, n, cap, us, bs1, rfl, rfl, h1, h2, h3, h4, h5, h6, h7, by rw [DV.n_eq, h4]; exact Nat.mul_div_cancel _ h5⟩

theorem arr_run (hT : TbOk P tb) {t e : TypeId} {len : Nat} (hk : (tb t).k = .array len e) (he : (tb e).k ≠ .other) {b off n : Nat} {k : IntKind} (hn : n < len) :
    (Instr.indexAt t (.pointer (some ⟨b, off, none⟩)) (.int k (n : Int))).run P w = .ok (.pointer (some ⟨b, off + n * (tb e).size, none⟩)) w := by
  have hu := (under_of hT).2.2.2 len e hk
  simp only [Instr.indexAt, asIntOf, Instr.sureAddr, Sem.run_bind, Sem.run_pure, Result.andThen_ok, run_underlying hu]
  rw [if_pos ⟨by omega, by omega⟩]
  simp only [Sem.run_bind, (size_of hT he).1, Result.andThen_ok, Addr_add]
  rfl
theorem elem_run (hT : TbOk P tb) {t e : TypeId} {len : Nat} (hk : (tb t).k = .array len e) {ke : IntKind} (he : (tb e).k = .int ke) (h1 : (tb e).size = 1) {n : Nat} {k : IntKind} (hn : n < len) {vs : Array Value} {v : Value} (hv : vs[n]? = some v) :
    (Instr.index t (.agg vs) (.int k (n : Int))).run P w = .ok v w := by
  have hu := (under_of hT).2.2.2 len e hk
  have hue := (under_of hT).1 ke he
  have hsz := (size_of (w := w) hT (t := e) (by rw [he]; simp)).1
  simp only [Instr.index, asIntOf, Sem.run_bind, Sem.run_pure, Result.andThen_ok, run_underlying hu]
  rw [if_pos ⟨by omega, by omega⟩]
  simp only [Sem.run_bind, hsz, Result.andThen_ok, h1, Nat.mul_one, Int.toNat_natCast]
  simp [part, isAgg, run_underlying hue, hv]

theorem index_sound (hT : TbOk P tb) (h : RelW φ w0 F0 sl fx ts fv w) {t ty : TypeId} {x i : Operand} {cs : List Prop} {r : SV} {sl' : Sl}
    (hx : opV tb sl ty (.indexAddr t x i) = some (cs, r, sl')) (hc : ∀ c ∈ cs, c) : Sound P w0 F0 ts ds w (.indexAddr t x i) ty r sl' := by
  simp only [opV] at hx
  split at hx
  · rename_i e v k n hk hv hi
    obtain ⟨e2, -⟩ := opView_sc (ds := ds) h hi
    simp only [Option.map_eq_some_iff, Prod.mk.injEq] at hx
    obtain ⟨⟨cs', r'⟩, hix, rfl, rfl, rfl⟩ := hx
    unfold idxV at hix
    split at hix
    · rename_i d
      simp only [Option.some.injEq, Prod.mk.injEq] at hix
      obtain ⟨rfl, rfl⟩ := hix
      obtain ⟨-, bs, hr, hfree⟩ := opView_rel (ds := ds) h hv rfl
      split at hc
      · rename_i hsz
        have h0 : 0 ≤ n := hc _ (by simp)
        have hn : n < d.n := hc _ (by simp)
        cases d with
        | val u => simp [DV.n] at hn; omega
        | sl sz es =>
          have hsz : sz = (tb e).size := by simpa [DV.sz] using hsz
          obtain ⟨b, off, m, cap, us, bs1, hv', rfl, g1, g2, g3, g4, g5, g6, g7, g8⟩ := n_of hr (by omega)
          rw [g8] at hn
          have he : (tb e).k ≠ .other := not_other hT (by rw [← hsz]; exact g5)
          obtain ⟨b1, b2, k1, k2, rfl⟩ := g7.split (n.toNat * sz)
          refine sound_see h (yields_val (s := Instr.indexAt t (Act.eval ⟨ts, ds⟩ x) (Act.eval ⟨ts, ds⟩ i)) (fun _ _ _ _ => rfl) (by rw [hv', e2]; exact index_run hT hk he h0 hn)) ?_
          rw [← hsz]
          refine ⟨rfl, b, _, us.drop (n.toNat * sz), b2, rfl, fun k v hk => ?_, g3, k2, fun t => hfree b (by simp) t, fun b' hb => hfree b' (by simp [hb])⟩
          rw [List.getElem?_drop] at hk
          rw [Nat.add_assoc]
          exact g1 _ _ hk
      · exact (hc False (by simp)).elim
    · rename_i u0 d
      simp only [Option.some.injEq, Prod.mk.injEq] at hix
      obtain ⟨rfl, rfl⟩ := hix
      obtain ⟨-, -, bs, hr, hfree⟩ := opView_rel (ds := ds) h hv rfl
      split at hc
      · rename_i hsz
        have h0 : 0 ≤ n := hc _ (by simp)
        have hn : n < d.n := hc _ (by simp)
        cases d with
        | val u => simp [DV.n] at hn; omega
        | sl sz es =>
          have hsz : sz = (tb e).size := by simpa [DV.sz] using hsz
          obtain ⟨b, off, m, cap, us, bs1, hv', rfl, g1, g2, g3, g4, g5, g6, g7, g8⟩ := n_of hr (by omega)
          rw [g8] at hn
          have he : (tb e).k ≠ .other := not_other hT (by rw [← hsz]; exact g5)
          obtain ⟨b1, b2, k1, k2, rfl⟩ := g7.split (n.toNat * sz)
          refine sound_see h (yields_val (s := Instr.indexAt t (Act.eval ⟨ts, ds⟩ x) (Act.eval ⟨ts, ds⟩ i)) (fun _ _ _ _ => rfl) (by rw [hv', e2]; exact index_run hT hk he h0 hn)) ?_
          rw [← hsz]
          refine ⟨rfl, b, _, us.drop (n.toNat * sz), b2, rfl, fun k v hk => ?_, g3, k2, fun t => hfree b (by simp) t, fun b' hb => hfree b' (by simp [hb])⟩
          rw [List.getElem?_drop] at hk
          rw [Nat.add_assoc]
          exact g1 _ _ hk
      · exact (hc False (by simp)).elim
    · rename_i s p d
      simp only [Option.some.injEq, Prod.mk.injEq] at hix
      obtain ⟨rfl, rfl⟩ := hix
      obtain ⟨-, hh, bs, hr, hin⟩ := opView_rel (ds := ds) h hv rfl
      split at hc
      · rename_i hsz
        have h0 : 0 ≤ n := hc _ (by simp)
        have hn : n < d.n := hc _ (by simp)
        cases d with
        | val u => simp [DV.n] at hn; omega
        | sl sz es =>
          have hsz : sz = (tb e).size := by simpa [DV.sz] using hsz
          obtain ⟨b, off, m, cap, us, bs1, hv', rfl, g1, g2, g3, g4, g5, g6, g7, g8⟩ := n_of hr (by omega)
          rw [g8] at hn
          have he : (tb e).k ≠ .other := not_other hT (by rw [← hsz]; exact g5)
          exact sound_see h (yields_val (s := Instr.indexAt t (Act.eval ⟨ts, ds⟩ x) (Act.eval ⟨ts, ds⟩ i)) (fun _ _ _ _ => rfl) (by rw [hv', e2]; exact index_run hT hk he h0 hn)) ⟨rfl, _, b, off, hh, by rw [hv']; rfl, rfl⟩
      · exact (hc False (by simp)).elim
    · cases hix
  · rename_i len e s q j k n hk hp hi
    obtain ⟨e2, -⟩ := opView_sc (ds := ds) h hi
    split at hx
    · rename_i hn
      rw [Bool.and_eq_true, Nat.blt_eq, Nat.blt_eq] at hn
      cases hx
      obtain ⟨-, hv, b, o, h2, h3, h5⟩ := opView_rel (ds := ds) h hp rfl
      exact sound_see h (yields_val (s := Instr.indexAt t (Act.eval ⟨ts, ds⟩ x) (Act.eval ⟨ts, ds⟩ i)) (fun _ _ _ _ => rfl) (by rw [h5, e2]; exact arr_run hT hk (not_other hT hn.2) hn.1))
        ⟨rfl, hv, b, o, h2, h3, by rw [Nat.add_assoc]⟩
    · cases hx
  · cases hx

end

end Go.Proofs.Ytlffmhhdgedddaa.DL

/- The data level, part 10: parts of tuples, cuts, new slices. -/
namespace Go.Proofs.Ytlffmhhdgedddaa.DL
open Go Go.RowKit

theorem madeCells_rows (z : Array Value) : ∀ n, (madeCells z (n * z.size)).toList = (List.replicate n z.toList).flatten
  | 0 => by simp [madeCells]
  | n + 1 => by
    have ih := madeCells_rows z n
    simp only [madeCells, Array.toList_map, Array.toList_range] at ih ⊢
    rw [Nat.succ_mul, List.range_add, List.map_append, ih, List.replicate_succ', List.flatten_append]
    congr 1
    simp only [List.map_map, List.flatten_singleton]
    apply List.ext_getElem
    · simp
    · intro i h1 h2
      have hi : i < z.size := by simpa using h1
      simp [Nat.add_comm (n * z.size) i, Nat.add_mul_mod_self_right, Nat.mod_eq_of_lt hi, hi]

theorem zeroRows_eq (zs : List CV) (n : Nat) : zeroRows zs n = (List.replicate n (zs.map CV.toDV)).flatten := by
  unfold zeroRows
  split
  · rename_i z
    induction n with
    | zero => rfl
    | succ n ih => simp only [List.replicate_succ, ih]; rfl
  · rfl

section
variable {P : Program} {tb : Tb} {φ : Option Nat → List Nat} {w0 w w' : World} {F0 : List Nat} {sl : Sl} {fx : SV} {ts : Array Value} {fv : Value} {ds : List Deferred}

theorem Rd.zeros {o : Bool} : ∀ {zs : List CV}, zs.all zeroOk = true → Rd o w (zs.map zeroV) (zs.map CV.toDV) []
  | [], _ => .nil
  | z :: zs, h => by
    simp only [List.all_cons, Bool.and_eq_true] at h
    cases z with
    | sc v => exact .sc h.1 (Rd.zeros h.2)
    | own d =>
      cases d with
      | val v => simp [zeroOk] at h
      | sl sz es =>
        cases es with
        | nil => exact .e0 (fun _ => rfl) (Rd.zeros h.2)
        | cons _ _ => simp [zeroOk] at h
    | _ => simp [zeroOk] at h

theorem Rd.rows {o : Bool} {vs : List Value} {es : List DV} (h : Rd o w vs es []) : ∀ n, Rd o w (List.replicate n vs).flatten (List.replicate n es).flatten []
  | 0 => .nil
  | n + 1 => by
    simp only [List.replicate_succ, List.flatten_cons]
    exact Rd.append h (Rd.rows h n)

theorem make_sound (hT : TbOk P tb) (h : RelW φ w0 F0 sl fx ts fv w) {t ty : TypeId} {l c : Operand} {cs : List Prop} {r : SV} {sl' : Sl}
    (hx : opV tb sl ty (.makeSlice t l c) = some (cs, r, sl')) (hc : ∀ p ∈ cs, p) : Sound P w0 F0 ts ds w (.makeSlice t l c) ty r sl' := by
  simp only [opV] at hx
  split at hx
  · rename_i e k1 n k2 m hk hl hm
    cases hx
    have e0 : n = m := hc _ (by simp)
    subst e0
    have h0 : 0 ≤ n := hc _ (by simp)
    have hb : ((tb e).bytes : Int) * n ≤ 281474976710656 := hc _ (by simp)
    have h63 : n ≤ 9223372036854775807 := hc _ (by simp)
    obtain ⟨e1, -⟩ := opView_sc (ds := ds) h hl
    obtain ⟨e2, -⟩ := opView_sc (ds := ds) h hm
    have he : (tb e).k ≠ .other := not_other hT (hc _ (by simp))
    obtain ⟨j, z, h1, h2, h3, h4, h5⟩ := info_of hT he
    have hz : (tb e).zero.all zeroOk = true ∧ (tb e).zero.length = (tb e).size ∧ 0 < (tb e).size := by
      have := (hT e).1
      unfold TIok at this
      split at this
      · rename_i hh; exact absurd hh he
      · exact ⟨this.2.1, this.2.2.1, this.2.2.2.1⟩
    have hzs : z.cells.size = (tb e).size := by
      have := congrArg List.length h4
      simpa [hz.2.1] using this
    have hrun := run_make (P := P) w t e j z ((under_of hT).2.1 e hk) h1 h3 k1 k2 n n h0 (Int.le_refl _) (by rw [h5]; exact hb) h63
    have hcells : (madeCells z.cells (n.toNat * j.size)).toList = (List.replicate n.toNat ((tb e).zero.map zeroV)).flatten := by
      rw [h2, ← hzs, madeCells_rows, h4]
    have hsize : (w.alloc (.cells (madeCells z.cells (n.toNat * j.size)) e)).heap.size = w.heap.size + 1 := by show (w.heap.push _).size = _; simp
    have hrows : (zeroRows (tb e).zero n.toNat).length = n.toNat * (tb e).size := by
      rw [zeroRows_eq]; simp [List.length_flatten, hz.2.1]
    have hrd : Rd true (w.alloc (.cells (madeCells z.cells (n.toNat * j.size)) e)) [.slice (some ⟨w.heap.size, 0, none⟩) n.toNat n.toNat] [.sl (tb e).size (zeroRows (tb e).zero n.toNat)] [w.heap.size] := by
      have := Rd.sl (o := true) (w := w.alloc (.cells (madeCells z.cells (n.toNat * j.size)) e)) (b := w.heap.size) (off := 0) (n := n.toNat) (cap := n.toNat) (sz := (tb e).size)
        (us := (List.replicate n.toNat ((tb e).zero.map zeroV)).flatten) (es := zeroRows (tb e).zero n.toNat) (bs1 := []) (vs := []) (ds := []) (bs2 := [])
        (fun k v hv => by
          rw [← hcells] at hv
          simp only [World.cell?, heap_alloc_self, Nat.zero_add]
          simpa using hv)
        (fun _ => ⟨_, e, heap_alloc_self w _, by rw [size_madeCells, h2]; omega⟩) (by omega) hrows ⟨hz.2.2, Nat.le_refl _⟩
        (by rw [zeroRows_eq]; exact Rd.rows (Rd.zeros hz.1) _) .nil
      simpa using this
    refine ⟨_, _, _, yields_val (s := Instr.makeSlice t (Act.eval ⟨ts, ds⟩ l) (Act.eval ⟨ts, ds⟩ c)) (fun _ _ _ _ => rfl) (by rw [e1, e2]; exact hrun),
      h.fresh (Ext.alloc w _) (ψ := [w.heap.size]) (x := .one (.cell (.own (.sl (tb e).size (zeroRows (tb e).zero n.toNat))))) (by simp) (fun b hb => ?_) hrd⟩
    have : b = w.heap.size := by simpa using hb
    omega
  · cases hx

theorem nil_sound (h : RelW φ w0 F0 sl fx ts fv w) {ty : TypeId} {x : Operand} {cs : List Prop} {r : SV} {sl' : Sl}
    (hx : opV tb sl ty (.nilCheck x) = some (cs, r, sl')) : Sound P w0 F0 ts ds w (.nilCheck x) ty r sl' := by
  simp only [opV] at hx
  split at hx
  · rename_i s q j hp
    cases hx
    have hr := opView_rel (ds := ds) h hp rfl
    obtain ⟨-, hv, b, o, h2, h3, h5⟩ := hr
    exact sound_see h (fun dst pos after guard => .inl (by simp only [execOp, h5]; rfl)) ⟨rfl, hv, b, o, h2, h3, rfl⟩
  · rename_i es hp
    cases hx
    have hr := opView_rel (ds := ds) h hp rfl
    obtain ⟨-, b, o, vs, bs, h1, h2⟩ := hr
    exact sound_see h (fun dst pos after guard => .inl (by simp only [execOp, h1]; rfl)) ⟨rfl, b, o, vs, bs, rfl, h2⟩
  · cases hx

theorem RVs.part {w : World} {φ : Option Nat → List Nat} {f : Nat → Value} {vs : List Value} {rs : List RV} {ψ : List Nat} (h : RVs w φ f vs rs ψ) {i : Nat} {r : RV} (hi : rs[i]? = some r) :
    ∃ v χ ψ', vs[i]? = some v ∧ RVRel w φ f v χ r ∧ RVs w φ f vs (rs.set i (.cell .un)) ψ' ∧ ψ.Perm (χ ++ ψ') := by
  induction h generalizing i with
  | nil => simp at hi
  | @cons v r' ψ1 vs rs ψs h1 h2 ih =>
    cases i with
    | zero =>
      simp only [List.getElem?_cons_zero, Option.some.injEq] at hi
      subst hi
      refine ⟨v, ψ1, ψs, rfl, h1, ?_, .refl _⟩
      have : RVs w φ f (v :: vs) (.cell .un :: rs) ([] ++ ψs) := .cons (show RVRel w φ f v [] (.cell .un) from trivial) h2
      simpa using this
    | succ i =>
      simp only [List.getElem?_cons_succ] at hi
      obtain ⟨v', χ, ψ', g1, g2, g3, g4⟩ := ih hi
      refine ⟨v', χ, ψ1 ++ ψ', by simpa using g1, g2, by simpa using RVs.cons h1 g3, ?_⟩
      refine (List.Perm.append_left ψ1 g4).trans ?_
      rw [← List.append_assoc, ← List.append_assoc]
      exact List.Perm.append_right ψ' List.perm_append_comm

/-- A part of what slot t holds takes flight. -/
theorem RelW.splitOff (h : RelW φ w0 F0 sl fx ts fv w) (t : Nat) {v : Value} {x y : SV} {χ ψ' : List Nat} (hx : SlotRel w φ (valAt ts) v χ x) (hy : SlotRel w φ (valAt ts) (valAt ts t) ψ' y)
    (hp : (φ (some t)).Perm (χ ++ ψ')) : ∃ φ', RelW φ' w0 F0 (putT sl t y) (killSV t x) ts v w := by
  have hnd := (hp.nodup_iff).1 (h.nd (some t))
  have hin : ∀ b, b ∈ χ ∨ b ∈ ψ' → b ∈ φ (some t) := fun b hb => hp.mem_iff.2 (by simpa using hb)
  have keep : ∀ (y : SV) (u : Value) (ω : List Nat), t ∉ y.roots → SlotRel w φ (valAt ts) u ω y →
      SlotRel w (fun s => if s = none then χ else if s = some t then ψ' else φ s) (valAt ts) u ω y := fun y u ω hy hr =>
    hr.kept ⟨Nat.le_refl _, fun _ _ => rfl, fun r hr' => by
      have hne : r ≠ t := fun e => hy (e ▸ hr')
      exact ⟨rfl, by simp [hne], fun _ _ => rfl⟩, fun b hb hfree => ⟨rfl, fun s hs => by
        split at hs
        · exact hfree (some t) (hin b (.inl hs))
        · split at hs
          · exact hfree (some t) (hin b (.inr hs))
          · exact hfree s hs⟩⟩
  refine ⟨fun s => if s = none then χ else if s = some t then ψ' else φ s, by simp [putT, h.len], fun s z hz => ?_, fun s => ?_, fun s s' hne b hb hb' => ?_, fun s b hb => ?_, h.ext⟩
  · cases s with
    | none =>
      cases hz
      simp only [vget, if_true]
      exact keep _ _ _ (not_root_kill t _) (killSV_rel t hx)
    | some s =>
      simp only [sget, putT] at hz
      by_cases e : s = t
      · subst e
        rw [List.getElem?_set] at hz
        simp only [if_true] at hz
        split at hz
        · cases hz
          simp only [vget, reduceCtorEq, if_false, if_true]
          exact keep _ _ _ (not_root_kill s _) (killSV_rel s hy)
        · cases hz
      · rw [List.getElem?_set_ne (Ne.symm e), List.getElem?_map] at hz
        cases hq : sl[s]? with
        | none => simp [hq] at hz
        | some q =>
          simp only [hq, Option.map_some, Option.some.injEq] at hz
          subst hz
          rw [if_neg (by simp), if_neg (by simpa using e)]
          exact keep _ _ _ (not_root_kill t q) (killSV_rel t (h.slot (some s) q hq))
  · split
    · exact (List.nodup_append.1 hnd).1
    · split
      · exact (List.nodup_append.1 hnd).2.1
      · exact h.nd s
  · have apart : ∀ b ∈ χ, b ∉ ψ' := fun b h1 h2 => (List.nodup_append.1 hnd).2.2 b h1 b h2 rfl
    split at hb
    · split at hb'
      · rename_i e1 e2; exact hne (e1.trans e2.symm)
      · split at hb'
        · exact apart b hb hb'
        · rename_i e1 e2 e3; exact h.dj (some t) s' (Ne.symm e3) b (hin b (.inl hb)) hb'
    · split at hb
      · split at hb'
        · exact apart b hb' hb
        · split at hb'
          · rename_i e1 e2 e3 e4; exact hne (e2.trans e4.symm)
          · rename_i e1 e2 e3 e4; exact h.dj (some t) s' (Ne.symm e4) b (hin b (.inr hb)) hb'
      · split at hb'
        · rename_i e1 e2 e3; exact h.dj s (some t) e2 b hb (hin b (.inl hb'))
        · split at hb'
          · rename_i e1 e2 e3 e4; exact h.dj s (some t) e2 b hb (hin b (.inr hb'))
          · exact h.dj s s' hne b hb hb'
  · split at hb
    · exact h.lt _ b (hin b (.inl hb))
    · split at hb
      · exact h.lt _ b (hin b (.inr hb))
      · exact h.lt s b hb
/-- The same, where t holds a box: pointers to it stay. -/
theorem RelW.splitOffB (h : RelW φ w0 F0 sl fx ts fv w) (t : Nat) {v : Value} {x y : SV} {χ ψ' : List Nat} (hx : SlotRel w φ (valAt ts) v χ x) (hy : SlotRel w φ (valAt ts) (valAt ts t) ψ' y)
    (hy0 : t ∉ y.roots) (hp : (φ (some t)).Perm (χ ++ ψ')) : ∃ φ', RelW φ' w0 F0 ((sl.map (keepB t)).set t y) (killSV t x) ts v w := by
  have hnd := (hp.nodup_iff).1 (h.nd (some t))
  have hin : ∀ b, b ∈ χ ∨ b ∈ ψ' → b ∈ φ (some t) := fun b hb => hp.mem_iff.2 (by simpa using hb)
  have keep : ∀ (y : SV) (u : Value) (ω : List Nat), t ∉ y.roots → SlotRel w φ (valAt ts) u ω y →
      SlotRel w (fun s => if s = none then χ else if s = some t then ψ' else φ s) (valAt ts) u ω y := fun y u ω hy hr =>
    hr.kept ⟨Nat.le_refl _, fun _ _ => rfl, fun r hr' => by
      have hne : r ≠ t := fun e => hy (e ▸ hr')
      exact ⟨rfl, by simp [hne], fun _ _ => rfl⟩, fun b hb hfree => ⟨rfl, fun s hs => by
        split at hs
        · exact hfree (some t) (hin b (.inl hs))
        · split at hs
          · exact hfree (some t) (hin b (.inr hs))
          · exact hfree s hs⟩⟩
  refine ⟨fun s => if s = none then χ else if s = some t then ψ' else φ s, by simp [h.len], fun s z hz => ?_, fun s => ?_, fun s s' hne b hb hb' => ?_, fun s b hb => ?_, h.ext⟩
  · cases s with
    | none =>
      cases hz
      simp only [vget, if_true]
      exact keep _ _ _ (not_root_kill t _) (killSV_rel t hx)
    | some s =>
      simp only [sget] at hz
      by_cases e : s = t
      · subst e
        rw [List.getElem?_set] at hz
        simp only [if_true] at hz
        split at hz
        · cases hz
          simp only [vget, reduceCtorEq, if_false, if_true]
          exact keep _ _ _ hy0 hy
        · cases hz
      · rw [List.getElem?_set_ne (Ne.symm e), List.getElem?_map] at hz
        cases hq : sl[s]? with
        | none => simp [hq] at hz
        | some q =>
          simp only [hq, Option.map_some, Option.some.injEq] at hz
          subst hz
          rw [if_neg (by simp), if_neg (by simpa using e)]
          have hq' := h.slot (some s) q hq
          unfold keepB
          split
          · rename_i hr
            split
            · obtain ⟨e1, hh, b', o', e2, e3⟩ := hq'
              exact ⟨e1, hh, b', o', by simpa [hdr] using e2, e3⟩
            · exact ⟨hq'.1, by have := hq'.2; simp only [hdr, vget] at this ⊢; exact this⟩
            · exact trivial
          · rename_i hr
            exact keep _ _ _ hr hq'
  · split
    · exact (List.nodup_append.1 hnd).1
    · split
      · exact (List.nodup_append.1 hnd).2.1
      · exact h.nd s
  · have apart : ∀ b ∈ χ, b ∉ ψ' := fun b h1 h2 => (List.nodup_append.1 hnd).2.2 b h1 b h2 rfl
    split at hb
    · split at hb'
      · rename_i e1 e2; exact hne (e1.trans e2.symm)
      · split at hb'
        · exact apart b hb hb'
        · rename_i e1 e2 e3; exact h.dj (some t) s' (Ne.symm e3) b (hin b (.inl hb)) hb'
    · split at hb
      · split at hb'
        · exact apart b hb' hb
        · split at hb'
          · rename_i e1 e2 e3 e4; exact hne (e2.trans e4.symm)
          · rename_i e1 e2 e3 e4; exact h.dj (some t) s' (Ne.symm e4) b (hin b (.inr hb)) hb'
      · split at hb'
        · rename_i e1 e2 e3; exact h.dj s (some t) e2 b hb (hin b (.inl hb'))
        · split at hb'
          · rename_i e1 e2 e3 e4; exact h.dj s (some t) e2 b hb (hin b (.inr hb'))
          · exact h.dj s s' hne b hb hb'
  · split at hb
    · exact h.lt _ b (hin b (.inl hb))
    · split at hb
      · exact h.lt _ b (hin b (.inr hb))
      · exact h.lt s b hb

theorem extract_sound (h : RelW φ w0 F0 sl fx ts fv w) {ty : TypeId} {x : Operand} {i : Nat} {cs : List Prop} {r : SV} {sl' : Sl}
    (hx : opV tb sl ty (.extract x i) = some (cs, r, sl')) : Sound P w0 F0 ts ds w (.extract x i) ty r sl' := by
  simp only [opV] at hx
  split at hx
  · rename_i t
    split at hx
    · rename_i rs hg
      have hs := gt_rel h t
      rw [hg] at hs
      obtain ⟨vs, h1, h2⟩ := hs
      have run : ∀ v, vs.toList[i]? = some v → (Instr.extract (Act.eval ⟨ts, ds⟩ (.tmp t)) i).run P w = .ok v w := fun v g1 => by
        have : Act.eval ⟨ts, ds⟩ (.tmp t) = .tuple vs := h1
        rw [this]
        simp only [Instr.extract]
        have hv : vs[i]? = some v := by simpa using g1
        rw [hv]
        rfl
      split at hx
      · rename_i r' hr
        obtain ⟨v, χ, ψ', g1, g2, g3, g4⟩ := h2.part hr
        split at hx
        · cases hx
          obtain ⟨φ', hk⟩ := h.splitOff t (x := .one r') (y := .tup (rs.set i (.cell .un))) g2 ⟨vs, h1, g3⟩ g4
          exact ⟨v, w, φ', yields_val (s := Instr.extract (Act.eval ⟨ts, ds⟩ (.tmp t)) i) (fun _ _ _ _ => rfl) (run v g1), hk⟩
        · rename_i ho
          cases hx
          exact ⟨v, w, _, yields_val (s := Instr.extract (Act.eval ⟨ts, ds⟩ (.tmp t)) i) (fun _ _ _ _ => rfl) (run v g1), h.see (g2.bare (by simpa using ho))⟩
      · cases hx
    · cases hx
  · cases hx

end

end Go.Proofs.Ytlffmhhdgedddaa.DL

/- The data level, part 11: cuts and stores. -/
namespace Go.Proofs.Ytlffmhhdgedddaa.DL
open Go Go.RowKit

theorem Rd.toF {o : Bool} {w : World} {vs : List Value} {es : List DV} {bs : List Nat} (h : Rd o w vs es bs) : Rd false w vs es bs := by
  cases o with
  | false => exact h
  | true => exact h.weaken

section
variable {P : Program} {tb : Tb} {φ : Option Nat → List Nat} {w0 w w' : World} {F0 : List Nat} {sl : Sl} {fx : SV} {ts : Array Value} {fv : Value} {ds : List Deferred}

theorem bound_eval (h : RelW φ w0 F0 sl fx ts fv w) {ty : TypeId} {o : Option Operand} {d n : Int} (hb : boundI tb ty sl o d = some n) :
    (o = none ∧ n = d) ∨ ∃ x k, o = some x ∧ Act.eval ⟨ts, ds⟩ x = .int k n := by
  unfold boundI at hb
  split at hb
  · cases hb; exact .inl ⟨rfl, rfl⟩
  · rename_i x
    split at hb
    · rename_i k m e
      cases hb
      exact .inr ⟨x, k, rfl, (opView_sc (ds := ds) h e).1⟩
    · cases hb

theorem run_bound {k : IntKind} {n : Int} {y : Nat} {code : BoundsCode} (h0 : 0 ≤ n) (h1 : n ≤ y) : (Instr.sliceBound (.int k n) y code).run P w = .ok n.toNat w := by
  simp only [Instr.sliceBound, asIntOf, Sem.run_bind, Sem.run_pure, Result.andThen_ok]
  rw [if_pos ⟨h0, h1⟩]
  rfl

/-- The cut of a header. -/
theorem cut_run (hT : TbOk P tb) {t e : TypeId} (hk : (tb t).k = .slice e) (he : (tb e).k ≠ .other) {a : Option Addr} {n cap : Nat} {lo hi : Int} {vl vh : Option Value}
    (hl : (vl = none ∧ lo = 0) ∨ ∃ k, vl = some (.int k lo)) (hh : (vh = none ∧ hi = n) ∨ ∃ k, vh = some (.int k hi)) (h0 : 0 ≤ lo) (h1 : lo ≤ hi) (h2 : hi ≤ n) (hc : n ≤ cap) :
    (Instr.sliceAt t (.slice a n cap) vl vh none).run P w = .ok (.slice (if cap = lo.toNat then a else a.map (·.add (lo.toNat * (tb e).size))) (hi.toNat - lo.toNat) (cap - lo.toNat)) w := by
  have hu := (under_of hT).2.1 e hk
  have hsz := (size_of (w := w) hT he).1
  have hbd : (Instr.sliceBounds true n cap vl vh none).run P w = .ok (lo.toNat, hi.toNat, cap) w := by
    rcases hl with ⟨rfl, rfl⟩ | ⟨kl, rfl⟩ <;> rcases hh with ⟨rfl, rfl⟩ | ⟨kh, rfl⟩
    · simp [Instr.sliceBounds]
    · simp [Instr.sliceBounds, run_bound (P := P) (w := w) (k := kh) (y := cap) (Int.le_trans h0 h1) (by omega)]
    · simp [Instr.sliceBounds, run_bound (P := P) (w := w) (k := kl) (y := n) h0 (by omega)]
    · have e1 := run_bound (P := P) (w := w) (k := kh) (y := cap) (n := hi) (code := .sliceAcap) (Int.le_trans h0 h1) (by omega)
      have e2 := run_bound (P := P) (w := w) (k := kl) (y := hi.toNat) (n := lo) (code := .sliceB) h0 (by omega)
      simp [Instr.sliceBounds, Sem.run_bind, e1, e2]
  simp only [Instr.sliceAt, Sem.run_bind, run_underlying hu, Result.andThen_ok, Instr.slice, hbd, hsz]
  rfl

/-- The data of a cut. -/
theorem cut_rd {v : Value} {sz : Nat} {es : List DV} {bs : List Nat} {o : Bool} (h : Rd o w [v] [.sl sz es] bs) {lo hi : Nat} (h1 : lo ≤ hi) (h2 : hi ≤ (DV.sl sz es).n) :
    ∃ a n cap, v = .slice a n cap ∧ (DV.sl sz es).n = n ∧ n ≤ cap ∧ ∃ a' bs', a' = (if cap = lo then a else a.map (·.add (lo * sz))) ∧
      Rd false w [.slice a' (hi - lo) (cap - lo)] [cutD (.sl sz es) lo hi] bs' ∧ (∀ b ∈ bs', b ∈ bs) ∧ (0 < hi - lo → ∃ b off, a = some ⟨b, off, none⟩ ∧ a' = some ⟨b, off + lo * sz, none⟩) := by
  rcases h.one with ⟨a, cap, rfl, rfl, rfl, -⟩ | ⟨b, off, n, cap, us, bs1, rfl, rfl, g1, g2, g3, g4, g5, g6, g7⟩
  · have hn : (DV.sl sz []).n = 0 := by rw [DV.n_eq]; simp
    rw [hn] at h2
    have e1 : hi = 0 := by omega
    have e2 : lo = 0 := by omega
    subst e1; subst e2
    refine ⟨a, 0, cap, rfl, hn, Nat.zero_le _, _, [], rfl, ?_, fun b hb => (by cases hb), fun h => by omega⟩
    have : cutD (.sl sz []) 0 0 = .sl sz [] := by simp [cutD, DV.es, DV.sz]
    rw [this]
    exact Rd.e0 (fun h => by cases h) .nil
  · have hn : (DV.sl sz es).n = n := by rw [DV.n_eq, g4]; exact Nat.mul_div_cancel _ g5
    rw [hn] at h2
    refine ⟨_, n, cap, rfl, hn, g6, ?_⟩
    by_cases hz : hi = lo
    · subst hz
      refine ⟨_, [], rfl, ?_, fun b hb => (by cases hb), fun h => by omega⟩
      have : cutD (.sl sz es) hi hi = .sl sz [] := by simp [cutD, DV.es, DV.sz]
      rw [this, Nat.sub_self]
      exact Rd.e0 (fun h => by cases h) .nil
    · have hlc : cap ≠ lo := by omega
      rw [if_neg hlc]
      obtain ⟨b1, b2, k1, k2, rfl⟩ := g7.split (hi * sz)
      obtain ⟨b3, b4, k3, k4, rfl⟩ := k1.split (lo * sz)
      refine ⟨_, b :: b4, rfl, ?_, fun b' hb => by
        rcases List.mem_cons.1 hb with rfl | hb
        · exact List.mem_cons_self ..
        · simp [hb], fun _ => ⟨b, off, rfl, by simp [Addr_add]⟩⟩
      have hle : hi * sz ≤ n * sz := Nat.mul_le_mul_right _ h2
      have hll : lo * sz ≤ hi * sz := Nat.mul_le_mul_right _ h1
      have := Rd.sl (o := false) (w := w) (b := b) (off := off + lo * sz) (n := hi - lo) (cap := cap - lo) (sz := sz) (us := (us.take (hi * sz)).drop (lo * sz)) (es := (es.take (hi * sz)).drop (lo * sz))
        (bs1 := b4) (vs := []) (ds := []) (bs2 := []) (fun k v hk => by
          rw [List.getElem?_drop, List.getElem?_take] at hk
          split at hk
          · rw [Nat.add_assoc]; exact g1 _ _ hk
          · cases hk) (fun h => by cases h) g3 (by
          rw [List.length_drop, List.length_take, g4, Nat.sub_mul, Nat.min_eq_left hle]) ⟨g5, by omega⟩ k4.toF .nil
      simpa [cutD, DV.es, DV.sz, Addr_add] using this

theorem slice_sound (hT : TbOk P tb) (h : RelW φ w0 F0 sl fx ts fv w) {t ty : TypeId} {x : Operand} {lo hi mx : Option Operand} {cs : List Prop} {r : SV} {sl' : Sl}
    (hx : opV tb sl ty (.slice t x lo hi mx) = some (cs, r, sl')) (hc : ∀ p ∈ cs, p) :
    Sound P w0 F0 ts ds w (.slice t x lo hi mx) ty r sl' := by
  simp only [opV] at hx
  split at hx
  · rename_i v hv
    split at hx
    · rename_i l hh hl hhe
      simp only [Option.map_eq_some_iff, Prod.mk.injEq] at hx
      obtain ⟨⟨cs', r'⟩, hcut, rfl, rfl, rfl⟩ := hx
      have bl := bound_eval (ds := ds) h hl
      have bh := bound_eval (ds := ds) h hhe
      have bl' : ((lo.map (Act.eval ⟨ts, ds⟩)) = none ∧ l = 0) ∨ ∃ k, lo.map (Act.eval ⟨ts, ds⟩) = some (.int k l) := by
        rcases bl with ⟨rfl, rfl⟩ | ⟨y, k, rfl, e⟩
        · exact .inl ⟨rfl, rfl⟩
        · exact .inr ⟨k, by simp [e]⟩
      have bh' : ∀ N : Int, (lenI v).getD 0 = N → ((hi.map (Act.eval ⟨ts, ds⟩)) = none ∧ hh = N) ∨ ∃ k, hi.map (Act.eval ⟨ts, ds⟩) = some (.int k hh) := by
        rintro N rfl
        rcases bh with ⟨rfl, rfl⟩ | ⟨y, k, rfl, e⟩
        · exact .inl ⟨rfl, rfl⟩
        · exact .inr ⟨k, by simp [e]⟩
      unfold cutV at hcut
      split at hcut
      · rename_i e d hk
        cases hcut
        obtain ⟨-, bs, hr, hfree⟩ := opView_rel (ds := ds) h hv rfl
        unfold cutC at hc
        split at hc
        · rename_i hsz
          have h0 : 0 ≤ l := hc _ (by simp)
          have h1 : l ≤ hh := hc _ (by simp)
          have h2 : hh ≤ d.n := hc _ (by simp)
          have hsz : d.sz = (tb e).size ∧ 0 < (tb e).size := by simpa using hsz
          cases d with
          | val u => simp only [DV.sz] at hsz; omega
          | sl sz es =>
            obtain ⟨hsz, hpos⟩ := hsz
            simp only [DV.sz] at hsz
            obtain ⟨a, n, cap, hv', hn, hcap, a', bs', ha', g1, g2, g3⟩ := cut_rd hr (lo := l.toNat) (hi := hh.toNat) (by omega) (by omega)
            have hrun := cut_run (w := w) hT hk (not_other hT hpos) (a := a) bl' (bh' n (by simp [lenI, sliceD, hn])) h0 h1 (by rw [← hn]; exact h2) hcap
            refine sound_see h (yields_val (s := Instr.sliceAt t (Act.eval ⟨ts, ds⟩ x) (lo.map (Act.eval ⟨ts, ds⟩)) (hi.map (Act.eval ⟨ts, ds⟩)) (none.map (Act.eval ⟨ts, ds⟩))) (fun _ _ _ _ => rfl) (by
              rw [hv']; exact hrun)) ⟨rfl, bs', ?_, fun b hb => hfree b (g2 b hb)⟩
            rw [← hsz, ← ha']
            exact g1
        · exact (hc False (by simp)).elim
      · rename_i e s p d hk
        cases hcut
        obtain ⟨-, hdr', bs, hr, hin⟩ := opView_rel (ds := ds) h hv rfl
        unfold cutC at hc
        split at hc
        · rename_i hsz
          have h0 : 0 ≤ l := hc _ (by simp)
          have h1 : l ≤ hh := hc _ (by simp)
          have h2 : hh ≤ d.n := hc _ (by simp)
          have hsz : d.sz = (tb e).size ∧ 0 < (tb e).size := by simpa using hsz
          cases d with
          | val u => simp only [DV.sz] at hsz; omega
          | sl sz es =>
            obtain ⟨hsz, hpos⟩ := hsz
            simp only [DV.sz] at hsz
            obtain ⟨a, n, cap, hv', hn, hcap, a', bs', ha', g1, g2, g3⟩ := cut_rd hr (lo := l.toNat) (hi := hh.toNat) (by omega) (by omega)
            have hrun := cut_run (w := w) hT hk (not_other hT hpos) (a := a) bl' (bh' n (by simp [lenI, sliceD, hn])) h0 h1 (by rw [← hn]; exact h2) hcap
            refine sound_see h (yields_val (s := Instr.sliceAt t (Act.eval ⟨ts, ds⟩ x) (lo.map (Act.eval ⟨ts, ds⟩)) (hi.map (Act.eval ⟨ts, ds⟩)) (none.map (Act.eval ⟨ts, ds⟩))) (fun _ _ _ _ => rfl) (by
              rw [hv']; exact hrun)) ⟨rfl, a, n, cap, a', hh.toNat - l.toNat, cap - l.toNat, bs', by rw [← hv']; exact hdr', ?_, ?_, ?_, fun b hb => hin b (g2 b hb)⟩
            · rw [← hsz, ← ha']
            · intro hp
              obtain ⟨b, off, e1, e2⟩ := g3 hp
              exact ⟨b, off, e1, e2⟩
            · rw [← hsz, ← ha']
              exact g1
        · exact (hc False (by simp)).elim
      · rename_i s hk
        cases hcut
        obtain ⟨e1, -⟩ := opView_sc (ds := ds) h hv
        have h0 : 0 ≤ l := hc _ (by simp)
        have h1 : l ≤ hh := hc _ (by simp)
        have h2 : hh ≤ s.size := hc _ (by simp)
        have hu : P.underlying t = some .string := (tiOf hT hk).2.2.2.2.1
        have bh2 := bh' s.size (by simp [lenI])
        refine sound_see h (v := .string (s.extract l.toNat hh.toNat)) (yields_val (s := Instr.sliceAt t (Act.eval ⟨ts, ds⟩ x) (lo.map (Act.eval ⟨ts, ds⟩)) (hi.map (Act.eval ⟨ts, ds⟩)) (none.map (Act.eval ⟨ts, ds⟩))) (fun _ _ _ _ => rfl) ?_) ⟨rfl, rfl, rfl⟩
        rw [e1]
        have hbd : (Instr.sliceBounds false s.size s.size (lo.map (Act.eval ⟨ts, ds⟩)) (hi.map (Act.eval ⟨ts, ds⟩)) none).run P w = .ok (l.toNat, hh.toNat, s.size) w := by
          rcases bl' with ⟨f1, rfl⟩ | ⟨kl, f1⟩ <;> rcases bh2 with ⟨f2, rfl⟩ | ⟨kh, f2⟩ <;> rw [f1, f2]
          · simp [Instr.sliceBounds]
          · simp [Instr.sliceBounds, run_bound (P := P) (w := w) (k := kh) (y := s.size) (Int.le_trans h0 h1) h2]
          · simp [Instr.sliceBounds, run_bound (P := P) (w := w) (k := kl) (y := s.size) h0 (by omega)]
          · have e1 := run_bound (P := P) (w := w) (k := kh) (y := s.size) (n := hh) (code := .sliceAlen) (Int.le_trans h0 h1) h2
            have e2 := run_bound (P := P) (w := w) (k := kl) (y := hh.toNat) (n := l) (code := .sliceB) h0 (by omega)
            simp [Instr.sliceBounds, Sem.run_bind, e1, e2]
        have hn : (none : Option Operand).map (Act.eval ⟨ts, ds⟩) = none := rfl
        rw [hn]
        simp only [Instr.sliceAt, Sem.run_bind, run_underlying hu, Result.andThen_ok, Instr.slice, hbd, Option.isSome_none, Bool.false_eq_true, if_false, Sem.run_pure]
      · rename_i e u d hk
        cases hcut
        obtain ⟨-, hvu, bs, hr, hfree⟩ := opView_rel (ds := ds) h hv rfl
        unfold cutC at hc
        split at hc
        · rename_i hsz
          have h0 : 0 ≤ l := hc _ (by simp)
          have h1 : l ≤ hh := hc _ (by simp)
          have h2 : hh ≤ d.n := hc _ (by simp)
          have hsz : d.sz = (tb e).size ∧ 0 < (tb e).size := by simpa using hsz
          cases d with
          | val u => simp only [DV.sz] at hsz; omega
          | sl sz es =>
            obtain ⟨hsz, hpos⟩ := hsz
            simp only [DV.sz] at hsz
            obtain ⟨a, n, cap, hv', hn, hcap, a', bs', ha', g1, g2, g3⟩ := cut_rd hr (lo := l.toNat) (hi := hh.toNat) (by omega) (by omega)
            have hrun := cut_run (w := w) hT hk (not_other hT hpos) (a := a) bl' (bh' n (by simp [lenI, sliceD, hn])) h0 h1 (by rw [← hn]; exact h2) hcap
            have hu : u = .slice a n cap := hvu.symm.trans hv'
            refine sound_see h (yields_val (s := Instr.sliceAt t (Act.eval ⟨ts, ds⟩ x) (lo.map (Act.eval ⟨ts, ds⟩)) (hi.map (Act.eval ⟨ts, ds⟩)) (none.map (Act.eval ⟨ts, ds⟩))) (fun _ _ _ _ => rfl) (by
              rw [hv']; exact hrun)) ⟨rfl, by rw [hu]; rfl, bs', ?_, fun b hb => hfree b (g2 b hb)⟩
            rw [← hsz, ← ha']
            exact g1
        · exact (hc False (by simp)).elim
      · rename_i e s p l0 d hk
        cases hcut
        obtain ⟨-, a0, n0, cap0, a1, n1, cap1, bs, hdr', hv1, hp1, hr, hin⟩ := opView_rel (ds := ds) h hv rfl
        unfold cutC at hc
        split at hc
        · rename_i hsz
          have h0 : 0 ≤ l := hc _ (by simp)
          have h1 : l ≤ hh := hc _ (by simp)
          have h2 : hh ≤ d.n := hc _ (by simp)
          have hsz : d.sz = (tb e).size ∧ 0 < (tb e).size := by simpa using hsz
          cases d with
          | val u => simp only [DV.sz] at hsz; omega
          | sl sz es =>
            obtain ⟨hsz, hpos⟩ := hsz
            simp only [DV.sz] at hsz
            obtain ⟨a, n, cap, hv', hn, hcap, a', bs', ha', g1, g2, g3⟩ := cut_rd hr (lo := l.toNat) (hi := hh.toNat) (by omega) (by omega)
            have hrun := cut_run (w := w) hT hk (not_other hT hpos) (a := a) bl' (bh' n (by simp [lenI, sliceD, hn])) h0 h1 (by rw [← hn]; exact h2) hcap
            rw [hv1] at hv'
            cases hv'
            refine sound_see h (yields_val (s := Instr.sliceAt t (Act.eval ⟨ts, ds⟩ x) (lo.map (Act.eval ⟨ts, ds⟩)) (hi.map (Act.eval ⟨ts, ds⟩)) (none.map (Act.eval ⟨ts, ds⟩))) (fun _ _ _ _ => rfl) (by
              rw [hv1]; exact hrun)) ⟨rfl, a0, n0, cap0, a', hh.toNat - l.toNat, cap1 - l.toNat, bs', hdr', ?_, ?_, ?_, fun b hb => hin b (g2 b hb)⟩
            · rw [← hsz, ← ha']
            · intro hp
              obtain ⟨b, off, e1, e2⟩ := g3 hp
              obtain ⟨b2, o2, e3, e4⟩ := hp1 (by omega)
              rw [e1] at e4
              cases e4
              exact ⟨b, o2, e3, by rw [e2, Nat.add_assoc]; rfl⟩
            · rw [← hsz, ← ha']
              exact g1
        · exact (hc False (by simp)).elim
      · cases hcut
    · cases hx
  · cases hx

end

end Go.Proofs.Ytlffmhhdgedddaa.DL

/- The data level, part 12: what a store does to owned memory. -/
namespace Go.Proofs.Ytlffmhhdgedddaa.DL
open Go Go.RowKit

theorem setRange_eq {α : Type} : ∀ (new l : List α) (j : Nat), j + new.length ≤ l.length → setRange l j new = l.take j ++ new ++ l.drop (j + new.length)
  | [], l, j, _ => by simp [setRange]
  | x :: xs, l, j, h => by
    simp only [List.length_cons] at h
    simp only [setRange]
    rw [setRange_eq xs (l.set j x) (j + 1) (by simp; omega)]
    have hj : j < l.length := by omega
    have e1 : (l.set j x).take (j + 1) = l.take j ++ [x] := by
      rw [List.take_set, List.take_succ_eq_append_getElem hj, List.set_append]
      simp [Nat.min_eq_left (Nat.le_of_lt hj)]
    have e2 : (l.set j x).drop (j + 1 + xs.length) = l.drop (j + (x :: xs).length) := by
      rw [List.drop_set]
      rw [if_pos (by omega)]
      congr 1
      simp; omega
    rw [e1, e2]
    simp

theorem setRange_length {α : Type} : ∀ (new l : List α) (j : Nat), (setRange l j new).length = l.length
  | [], _, _ => rfl
  | x :: xs, l, j => by simp only [setRange]; rw [setRange_length xs]; simp

theorem setCells_block {b : Nat} {el : TypeId} {fz : Nat × Nat} : ∀ (us : List Value) (o : Nat) {w : World} {c : Array Value}, w.heap[b]? = some (.cells c el fz) →
    (w.setCells b o us).heap[b]? = some (.cells (setRange c.toList o us).toArray el fz)
  | [], o, w, c, h => by simpa [World.setCells, setRange] using h
  | u :: us, o, w, c, h => by
    have h1 : (w.setCell ⟨b, o, none⟩ u).heap[b]? = some (.cells (c.setIfInBounds o u) el fz) := by
      simp only [World.setCell, Array.getElem?_modify, if_true, h]
      rfl
    have := setCells_block us (o + 1) h1
    rw [World.setCells, this]
    simp [setRange]

theorem setCells_ext (w : World) (b o : Nat) (us : List Value) : Ext [b] w (w.setCells b o us) := by
  induction us generalizing w o with
  | nil => exact Ext.refl _ _
  | cons u us ih =>
    refine Ext.trans (b := w.setCell ⟨b, o, none⟩ u) ⟨rfl, rfl, rfl, by simp [World.setCell], fun k _ hn => Below.heap_setCell _ _ _ _ (by simpa using hn)⟩ ?_
    exact ih _ _

theorem Rd.setRange {w : World} {o : Bool} {vs us : List Value} {es new : List DV} {bs χ : List Nat} (h : Rd o w vs es bs) {j : Nat} (hj : j + new.length ≤ es.length) (hn : Rd o w us new χ) :
    ∃ bs', Rd o w (DL.setRange vs j us) (DL.setRange es j new) bs' ∧ ∃ dr, (bs ++ χ).Perm (bs' ++ dr) := by
  have hl : us.length = new.length := hn.length
  obtain ⟨b1, b2, h1, h2, rfl⟩ := h.split j
  obtain ⟨b3, b4, h3, h4, rfl⟩ := h2.split new.length
  refine ⟨b1 ++ χ ++ b4, ?_, b3, ?_⟩
  · rw [setRange_eq _ _ _ hj, setRange_eq us vs j (by rw [h.length, hl]; exact hj), hl]
    rw [List.drop_drop, List.drop_drop] at h4
    exact (h1.append hn).append h4
  · have : (b1 ++ (b3 ++ b4) ++ χ).Perm (b1 ++ (χ ++ (b4 ++ b3))) := by
      rw [List.append_assoc]
      refine List.Perm.append_left b1 ?_
      refine List.perm_append_comm.trans ?_
      exact List.Perm.append_left χ List.perm_append_comm
    simpa [List.append_assoc] using this

/-- Cells in the container at the end of a way are overwritten. -/
theorem Rd.store {w : World} {F : List Nat} {us : List Value} {new : List DV} {χ : List Nat} {j b o : Nat} (hn : Rd true w us new χ) (hpos : 0 < new.length) (hχn : χ.Nodup) :
    ∀ (q : List Nat) {v hv : Value} {d : DV} {ψ : List Nat}, Rd true w [v] [d] ψ → ψ.Nodup → (∀ x ∈ χ, x ∉ ψ) → hdr w F v q = some hv → locOf hv = some (b, o) → d.InP q → j + new.length ≤ (d.getP q).es.length →
      w.there b (o + j) us.length ∧ b ∈ ψ ∧ ∃ ψ', Rd true (w.setCells b (o + j) us) [v] [d.modP (fun es => DL.setRange es j new) q] ψ' ∧ ψ'.Nodup ∧ ∀ x ∈ ψ', x ∈ ψ ∨ x ∈ χ
  | [], v, hv, d, ψ, h, hnd, hdj, hh, hl, _, hle => by
    simp only [hdr, Option.some.injEq] at hh
    subst hh
    simp only [DV.getP] at hle
    cases d with
    | val u =>
      have hle' : j + new.length ≤ 0 := hle
      omega
    | sl sz es =>
      simp only [DV.es] at hle
      have hul : us.length = new.length := hn.length
      rcases h.one with ⟨a, cap, rfl, rfl, _⟩ | ⟨b', off, n, cap, us0, bs1, rfl, rfl, g1, g2, g3, g4, g5, g6, g7⟩
      · have hle' : j + new.length ≤ 0 := hle
        omega
      · simp only [locOf, Option.some.injEq, Prod.mk.injEq] at hl
        obtain ⟨rfl, rfl⟩ := hl
        obtain ⟨c, el, hc, hm⟩ := g2 rfl
        obtain ⟨hb, hnd1⟩ := List.nodup_cons.1 hnd
        have h0 : us0.length = es.length := g7.length
        have there : w.there b' (off + j) us.length := fun k hk => by
          have hk' : j + k < us0.length := by omega
          have := g1 (j + k) _ (List.getElem?_eq_getElem hk')
          rw [Nat.add_assoc, this]
          refine ⟨rfl, ?_⟩
          simp only [World.frozen?, hc]
          simp
        refine ⟨there, List.mem_cons_self .., ?_⟩
        obtain ⟨ψ1, k1, dr, k2⟩ := g7.setRange (j := j) hle hn
        have hnd2 : (bs1 ++ χ).Nodup := List.nodup_append.2 ⟨hnd1, hχn, fun x hx y hy e => hdj y hy (by rw [← e]; exact List.mem_cons_of_mem _ hx)⟩
        have hnd3 := (k2.nodup_iff).1 hnd2
        have hin : ∀ x ∈ ψ1, x ∈ bs1 ∨ x ∈ χ := fun x hx => by
          have := (k2.mem_iff (a := x)).2 (List.mem_append_left _ hx)
          simpa using this
        have hbψ : b' ∉ ψ1 := fun hx => by
          rcases hin b' hx with h' | h'
          · exact hb h'
          · exact hdj b' h' (List.mem_cons_self ..)
        refine ⟨b' :: ψ1, ?_, List.nodup_cons.2 ⟨hbψ, (List.nodup_append.1 hnd3).1⟩, fun x hx => ?_⟩
        · have hx := setCells_ext w b' (off + j) us
          have hs := setCells_block (b := b') (w := w) (c := c) us (off + j) hc
          have := Rd.sl (o := true) (w := w.setCells b' (off + j) us) (b := b') (off := off) (n := n) (cap := cap) (sz := sz) (us := DL.setRange us0 j us) (es := DL.setRange es j new) (bs1 := ψ1)
            (vs := []) (ds := []) (bs2 := []) (fun k x hk => by
              rw [setRange_eq us us0 j (by omega)] at hk
              by_cases h1 : k < j
              · rw [World.cell?_setCells_out _ _ _ _ _ (fun _ _ => .inl (by show off + k < off + j; omega))]
                refine g1 k x ?_
                rw [List.append_assoc, List.getElem?_append_left (by simp; omega), List.getElem?_take, if_pos h1] at hk
                exact hk
              · by_cases h2 : k < j + us.length
                · have := World.cell?_setCells_in b' us (off + j) w (fun i hi => (there i hi).1) (k - j) (by omega)
                  rw [show off + j + (k - j) = off + k by omega] at this
                  rw [this]
                  rw [List.append_assoc, List.getElem?_append_right (by simp; omega), List.getElem?_append_left (by simp; omega)] at hk
                  rw [← hk]
                  rw [List.getElem?_eq_getElem (by simp; omega)]
                  congr 2
                  simp; omega
                · rw [World.cell?_setCells_out _ _ _ _ _ (fun _ _ => .inr (by show off + j + us.length ≤ off + k; omega))]
                  refine g1 k x ?_
                  rw [List.getElem?_append_right (by simp; omega), List.getElem?_drop] at hk
                  rw [← hk]
                  congr 1
                  simp; omega)
            (fun _ => ⟨_, el, hs, by simp [setRange_length]; exact hm⟩) (Nat.lt_of_lt_of_le g3 hx.size) (by rw [setRange_length]; exact g4) ⟨g5, g6⟩
            (k1.frame hx.size fun x hx' => hx.block x (k1.lt x hx') (by simp; intro e; exact hbψ (e ▸ hx'))) .nil
          simpa [DV.modP] using this
        · rcases List.mem_cons.1 hx with rfl | hx
          · exact .inl (List.mem_cons_self ..)
          · exact (hin x hx).imp (List.mem_cons_of_mem _) id
  | i :: q, v, hv, d, ψ, h, hnd, hdj, hh, hl, hp, hle => by
    obtain ⟨hi, hp⟩ := hp
    cases d with
    | val u => simp [DV.es] at hi
    | sl sz es =>
      simp only [DV.es] at hi hp
      rcases h.one with ⟨a, cap, rfl, rfl, _⟩ | ⟨b1, off, n, cap, us1, bs1, rfl, rfl, g1, g2, g3, g4, g5, g6, g7⟩
      · simp at hi
      · have hiu : i < us1.length := by rw [g7.length]; exact hi
        obtain ⟨d', hd', c1, c2, c3, k1, k2, k3, rfl⟩ := g7.get (j := i) (v := us1[i]) (List.getElem?_eq_getElem hiu)
        have hd : es.getD i dfl = d' := by simp [List.getD, hd']
        rw [hd] at hp
        simp only [DV.getP, DV.es, hd] at hle
        simp only [hdr, locOf] at hh
        split at hh
        · rw [g1 i us1[i] (List.getElem?_eq_getElem hiu)] at hh
          simp only [Option.bind_some] at hh
          obtain ⟨hb1, hnd1⟩ := List.nodup_cons.1 hnd
          have hndc := List.nodup_append.1 hnd1
          have hndc2 := List.nodup_append.1 hndc.2.1
          obtain ⟨there, hbin, ψ', m1, m2, m3⟩ := Rd.store hn hpos hχn q k2 hndc2.1 (fun x hx hx' => hdj x hx (by simp [hx'])) hh hl hp hle
          refine ⟨there, by simp [hbin], b1 :: (c1 ++ ψ' ++ c3), ?_, ?_, fun x hx => ?_⟩
          · have hx := setCells_ext w b (o + j) us
            have ne1 : b1 ≠ b := fun e => hb1 (by rw [e]; simp [hbin])
            have hk1 : w.setCells b (o + j) us = w.setCells b (o + j) us := rfl
            have f1 : Rd true (w.setCells b (o + j) us) (us1.take i) (es.take i) c1 := k1.frame hx.size fun x hx' => hx.block x (k1.lt x hx') (by
              simp; intro e; exact hndc.2.2 x hx' b (by simp [hbin]) e)
            have f3 : Rd true (w.setCells b (o + j) us) (us1.drop (i + 1)) (es.drop (i + 1)) c3 := k3.frame hx.size fun x hx' => hx.block x (k3.lt x hx') (by
              simp; intro e; exact hndc2.2.2 b hbin x hx' e.symm)
            have f := (f1.append m1).append f3
            have e1 : us1.take i ++ [us1[i]] ++ us1.drop (i + 1) = us1 := by simp
            have e2 : es.take i ++ [d'.modP (fun es => DL.setRange es j new) q] ++ es.drop (i + 1) = es.set i (d'.modP (fun es => DL.setRange es j new) q) := by
              rw [List.set_eq_take_append_cons_drop, if_pos hi]; simp
            rw [e1, e2] at f
            have hblk : (w.setCells b (o + j) us).heap[b1]? = w.heap[b1]? := heap_setCells b us _ w b1 ne1
            have := Rd.sl (o := true) (w := w.setCells b (o + j) us) (b := b1) (off := off) (n := n) (cap := cap) (sz := sz) (us := us1) (es := es.set i (d'.modP (fun es => DL.setRange es j new) q))
              (bs1 := c1 ++ ψ' ++ c3) (vs := []) (ds := []) (bs2 := []) (rangeAt_block hblk g1) (fun h => by
                obtain ⟨c, el, e1, e2⟩ := g2 h
                exact ⟨c, el, hblk.trans e1, e2⟩) (Nat.lt_of_lt_of_le g3 hx.size) (by simpa using g4) ⟨g5, g6⟩ f .nil
            simp only [DV.modP, hd]
            simpa using this
          · refine List.nodup_cons.2 ⟨fun hx => ?_, ?_⟩
            · simp only [List.append_assoc, List.mem_append] at hx
              rcases hx with hx | hx | hx
              · exact hb1 (by simp [hx])
              · rcases m3 _ hx with h' | h'
                · exact hb1 (by simp [h'])
                · exact hdj _ h' (List.mem_cons_self ..)
              · exact hb1 (by simp [hx])
            · rw [List.append_assoc]
              refine List.nodup_append.2 ⟨hndc.1, List.nodup_append.2 ⟨m2, hndc2.2.1, fun x hx y hy e => ?_⟩, fun x hx y hy e => ?_⟩
              · rcases m3 x hx with h' | h'
                · exact hndc2.2.2 x h' y hy e
                · exact hdj x h' (by rw [e]; simp [hy])
              · rcases List.mem_append.1 hy with hy | hy
                · rcases m3 y hy with h' | h'
                  · exact hndc.2.2 x hx y (by simp [h']) e
                  · exact hdj y h' (by rw [← e]; simp [hx])
                · exact hndc.2.2 x hx y (by simp [hy]) e
          · simp only [List.mem_cons, List.append_assoc, List.mem_append] at hx
            rcases hx with rfl | hx | hx | hx
            · exact .inl (List.mem_cons_self ..)
            · exact .inl (by simp [hx])
            · rcases m3 _ hx with h' | h'
              · exact .inl (by simp [h'])
              · exact .inr h'
            · exact .inl (by simp [hx])
        · cases hh

end Go.Proofs.Ytlffmhhdgedddaa.DL

/- The data level, part 13: stores. -/
namespace Go.Proofs.Ytlffmhhdgedddaa.DL
open Go Go.RowKit

section
variable {P : Program} {tb : Tb} {φ : Option Nat → List Nat} {w0 w w' : World} {F0 : List Nat} {sl : Sl} {fx : SV} {ts : Array Value} {fv : Value} {ds : List Deferred}

def landed (φ : Option Nat → List Nat) (s : Nat) (ψ' : List Nat) : Option Nat → List Nat := fun t => if t = some s then ψ' else if t = none then [] else φ t

theorem landed_kept (h : RelW φ w0 F0 sl fx ts fv w) {s : Nat} {ψ' : List Nat} (hx : Ext (φ (some s)) w w') (hψ : ∀ b ∈ ψ', b ∈ φ (some s) ∨ b ∈ φ none) {t : Option Nat} (ht : t ≠ some s) {R : List Nat}
    (hR : ∀ r ∈ R, r ≠ s) : Kept w φ (valAt ts) w' (landed φ s ψ') (valAt ts) (φ t) R := by
  refine ⟨hx.size, fun b hb => hx.block b (h.lt t b hb).1 (h.dj t (some s) ht b hb), fun r hr => ⟨rfl, by simp [landed, hR r hr], fun b hb => hx.block b (h.lt _ b hb).1 (h.dj (some r) (some s) (by simpa using hR r hr) b hb)⟩,
    fun b hb hf => ⟨hx.block b hb (hf (some s)), fun t ht => ?_⟩⟩
  unfold landed at ht
  split at ht
  · rcases hψ b ht with h' | h'
    · exact hf _ h'
    · exact hf _ h'
  · split at ht
    · cases ht
    · exact hf _ ht

/-- Slot s is written through, what was in flight comes to it. -/
theorem RelW.write (h : RelW φ w0 F0 sl fx ts fv w) (s : Nat) (hs : s < sl.length) {x' : SV} {ψ' : List Nat} {keep : SV → SV} (hx : Ext (φ (some s)) w w') (hnd : ψ'.Nodup)
    (hψ : ∀ b ∈ ψ', b ∈ φ (some s) ∨ b ∈ φ none) (hrel : SlotRel w' (landed φ s ψ') (valAt ts) (valAt ts s) ψ' x') (hk0 : ∀ y, s ∉ y.roots → keep y = y)
    (hk1 : ∀ t y, t ≠ s → sl[t]? = some y → s ∈ y.roots → SlotRel w' (landed φ s ψ') (valAt ts) (valAt ts t) (φ (some t)) (keep y)) :
    RelW (landed φ s ψ') w0 F0 ((sl.map keep).set s x') .und ts undef w' := by
  let H := (List.range sl.length).filter fun t => decide (s ∈ (gt sl t).roots)
  have hH : ∀ t, t ∈ H ↔ ∃ y, sl[t]? = some y ∧ s ∈ y.roots := fun t => by
    simp only [H, List.mem_filter, List.mem_range, decide_eq_true_eq]
    constructor
    · rintro ⟨h1, h2⟩
      refine ⟨sl[t], List.getElem?_eq_getElem h1, ?_⟩
      simpa [gt, List.getD, List.getElem?_eq_getElem h1] using h2
    · rintro ⟨y, h1, h2⟩
      have hl := (List.getElem?_eq_some_iff.1 h1).1
      refine ⟨hl, ?_⟩
      simpa [gt, List.getD, h1] using h2
  let M : List (Option Nat) := some s :: none :: H.map some
  have hM : ∀ t, t ∈ M ↔ t = some s ∨ t = none ∨ ∃ k ∈ H, t = some k := fun t => by
    simp only [M, List.mem_cons, List.mem_map]
    constructor
    · rintro (h | h | ⟨k, h1, h2⟩)
      · exact .inl h
      · exact .inr (.inl h)
      · exact .inr (.inr ⟨k, h1, h2.symm⟩)
    · rintro (h | h | ⟨k, h1, h2⟩)
      · exact .inl h
      · exact .inr (.inl h)
      · exact .inr (.inr ⟨k, h1, h2.symm⟩)
  have e_s : landed φ s ψ' (some s) = ψ' := by simp [landed]
  have e_n : landed φ s ψ' none = [] := by simp [landed]
  have e_t : ∀ t, t ≠ some s → t ≠ none → landed φ s ψ' t = φ t := fun t h1 h2 => by simp [landed, h1, h2]
  have hget : ∀ t, t ≠ s → ((sl.map keep).set s x')[t]? = (sl[t]?).map keep := fun t ht => by rw [List.getElem?_set_ne (Ne.symm ht), List.getElem?_map]
  refine h.update M (by simp [h.len]) (hx.mono fun b hb _ => List.mem_flatMap.2 ⟨some s, (hM _).2 (.inl rfl), hb⟩) (fun t ht => ?_) (fun m hm b hb => ?_) (fun m hm => ?_) (fun m hm m' hm' hne b hb hb' => ?_)
    (fun t ht => ?_) (fun t ht => ?_) (fun m hm x hx' => ?_)
  · exact e_t t (fun e => ht ((hM t).2 (.inl e))) (fun e => ht ((hM t).2 (.inr (.inl e))))
  · by_cases e1 : m = some s
    · subst e1
      rw [e_s] at hb
      rcases hψ b hb with h' | h'
      · exact ⟨Nat.lt_of_lt_of_le (h.lt _ b h').1 hx.size, .inl ⟨_, hm, h'⟩⟩
      · exact ⟨Nat.lt_of_lt_of_le (h.lt _ b h').1 hx.size, .inl ⟨none, (hM _).2 (.inr (.inl rfl)), h'⟩⟩
    · by_cases e2 : m = none
      · subst e2; rw [e_n] at hb; cases hb
      · rw [e_t m e1 e2] at hb
        exact ⟨Nat.lt_of_lt_of_le (h.lt _ b hb).1 hx.size, .inl ⟨m, hm, hb⟩⟩
  · by_cases e1 : m = some s
    · subst e1; rw [e_s]; exact hnd
    · by_cases e2 : m = none
      · subst e2; rw [e_n]; exact .nil
      · rw [e_t m e1 e2]; exact h.nd m
  · have aux : ∀ m', m' ≠ some s → ∀ b ∈ ψ', b ∉ landed φ s ψ' m' := fun m' e b hb hb' => by
      by_cases e2 : m' = none
      · subst e2; rw [e_n] at hb'; cases hb'
      · rw [e_t m' e e2] at hb'
        rcases hψ b hb with h' | h'
        · exact h.dj _ _ (Ne.symm e) b h' hb'
        · exact h.dj _ _ (Ne.symm e2) b h' hb'
    by_cases e1 : m = some s
    · subst e1
      rw [e_s] at hb
      exact aux m' (Ne.symm hne) b hb hb'
    · by_cases e1' : m' = some s
      · subst e1'
        rw [e_s] at hb'
        exact aux m e1 b hb' hb
      · by_cases e2 : m = none
        · subst e2; rw [e_n] at hb; cases hb
        · by_cases e2' : m' = none
          · subst e2'; rw [e_n] at hb'; cases hb'
          · rw [e_t m e1 e2] at hb
            rw [e_t m' e1' e2'] at hb'
            exact h.dj m m' hne b hb hb'
  · cases t with
    | none => exact absurd ((hM none).2 (.inr (.inl rfl))) ht
    | some t => rfl
  · cases t with
    | none => exact absurd ((hM none).2 (.inr (.inl rfl))) ht
    | some t =>
      have hts : t ≠ s := fun e => ht ((hM _).2 (.inl (by rw [e])))
      have hnr : ∀ y, sl[t]? = some y → s ∉ y.roots := fun y hy hr => ht ((hM _).2 (.inr (.inr ⟨t, (hH t).2 ⟨y, hy, hr⟩, rfl⟩)))
      refine ⟨?_, fun y hy => .inr ?_⟩
      · simp only [sget]
        rw [hget t hts]
        cases hy : sl[t]? with
        | none => rfl
        | some y => simp [hk0 y (hnr y hy)]
      · simp only [vget]
        rw [e_t (some t) (by simpa using hts) (by simp)]
        exact (h.slot (some t) y hy).kept (landed_kept h hx hψ (by simpa using hts) fun r hr e => hnr y hy (e ▸ hr))
  · rcases (hM m).1 hm with e | e | ⟨k, hk, e⟩
    · subst e
      simp only [sget] at hx'
      rw [List.getElem?_set_self (by simpa using hs)] at hx'
      cases hx'
      rw [e_s]
      exact hrel
    · subst e; cases hx'; exact rfl
    · subst e
      obtain ⟨y, hy, hr⟩ := (hH k).1 hk
      by_cases ek : k = s
      · subst ek
        simp only [sget] at hx'
        rw [List.getElem?_set_self (by simpa using hs)] at hx'
        cases hx'
        rw [e_s]
        exact hrel
      · simp only [sget] at hx'
        rw [hget k ek, hy] at hx'
        cases hx'
        rw [e_t (some k) (by simpa using ek) (by simp)]
        exact hk1 k y ek hy hr

end

end Go.Proofs.Ytlffmhhdgedddaa.DL
