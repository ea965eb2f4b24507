/- The data level, part 20: regions whose operations may run in more than one order. -/
import Derived.Test.YtckcehmggdnliaaL19a
namespace Go.Proofs.Ytckcehmggdnliaa.DL
open Go Go.RowKit

abbrev Ups := List (Nat × SV)

/-- 'append' of slot u's slice to what slot s owns, into slot d. -/
structure AppO (C : Cfg) (o : Oper) (s u d : Nat) (ty : TypeId) : Prop where
  dst : o.dst = some d
  guard : o.guard = none
  op : ∃ c, o.op = .call c ∧ c.callee = .builtin .append ∧ c.args.toList = [.tmp s, .tmp u] ∧ c.argTypes.toList = [ty, ty]
  x : isX C o = true
  b : boxIo C o = none

/-- The text's own run of a segment: what each operation sets, and what was looked at. -/
inductive Run (P : Program) (C : Cfg) (ops : List Oper) (tab : List Nat) (wr : List (Nat × Nat × List Nat)) (seg : List Oper) (c : Nat) : List Oper → Nat → Sl → List Ups → Sl → Prop
  | nil {k : Nat} {sl : Sl} : Run P C ops tab wr seg c [] k sl [] sl
  | st {o : Oper} {os : List Oper} {k d : Nat} {sl sl' : Sl} {x : SV} {us : List Ups} : wr.lookup k = none → (still sl o.op && !isX C o) = true → footOk ops tab wr seg c o k sl = true → StepR P C ops o sl x sl →
      o.dst = some d → (∀ t ∈ C.pin, o.dst ≠ some t) → (∀ t ∈ (gt (put sl (some d) x) d).roots, hangOk tab wr k t seg c = true) → kBs wr (gt (put sl (some d) x) d) = true →
      Run P C ops tab wr seg c os (k + 1) (put sl (some d) x) us sl' → Run P C ops tab wr seg c (o :: os) k sl ([(d, killSV d x)] :: us) sl'
  | wr {o : Oper} {os : List Oper} {k s : Nat} {tv : List Nat} {sl sl1 sl' : Sl} {cs : List Prop} {x : SV} {us : List Ups} : wr.lookup k = some (s, tv) → isX C o = false → o.dst = none → o.guard = none →
      storeT C.tb sl o.type o.op = some (s, tv) → s ∉ tv → (∀ t ∈ foot ops o sl ++ (s :: tv), lookOk tab wr k t seg c = true) → (∀ y ∈ sl, kB s y = true ∧ ∀ t ∈ tv, t ∉ y.roots) →
      opV C.tb sl o.type o.op = some (cs, x, sl1) → (∀ p ∈ cs, p) → ownForm (gt sl s) = ownForm (gt sl1 s) → (gt sl1 s).roots = [] →
      Run P C ops tab wr seg c os (k + 1) sl1 us sl' → Run P C ops tab wr seg c (o :: os) k sl (((s, gt sl1 s) :: tv.map fun t => (t, SV.dead)) :: us) sl'
  | ap {o : Oper} {os : List Oper} {k s u d : Nat} {sl sl' : Sl} {ty : TypeId} {cs : List Prop} {x : SV} {us : List Ups} : wr.lookup k = some (s, [s]) → AppO C o s u d ty → (∀ t ∈ C.pin, o.dst ≠ some t) → ownForm (gt sl s) = true → (gt sl u).isOwn = false →
      u ≠ s → d ≠ s → s < sl.length → (∀ t ∈ foot ops o sl ++ [s], lookOk tab wr k t seg c = true) → (∀ y ∈ sl, s ∉ y.roots) → appV C.tb sl ty (.tmp s) (.tmp u) = some (cs, x, sl.set s .dead) → (∀ p ∈ cs, p) → x.roots = [] →
      Run P C ops tab wr seg c os (k + 1) (put (sl.set s .dead) (some d) x) us sl' → Run P C ops tab wr seg c (o :: os) k sl ([(d, x), (s, SV.dead)] :: us) sl'

section
variable {P : Program} {C : Cfg} {ops : List Oper} {tab : List Nat} {wr : List (Nat × Nat × List Nat)} {seg : List Oper} {c : Nat}

theorem storeT_op {tb : Tb} {sl : Sl} {ty : TypeId} {op : Op} {r : Nat × List Nat} (h : storeT tb sl ty op = some r) : ∃ t a x, op = .store t a x := by
  cases op with
  | store t a x => exact ⟨t, a, x, rfl⟩
  | _ => simp [storeT] at h

theorem segK_run {K : Sl → Prop} : ∀ (os : List Oper) (k : Nat) (sl : Sl), segK P C ops tab wr seg c os k sl K → ∃ us sl', Run P C ops tab wr seg c os k sl us sl' ∧ K sl'
  | [], k, sl, h => ⟨[], sl, .nil, h⟩
  | o :: os, k, sl, h => by
    simp only [segK] at h
    split at h
    · rename_i hw
      split at h
      · rename_i hc
        rw [Bool.and_eq_true] at hc
        obtain ⟨x, sl', h1, h2⟩ := stepK_step (boxIo_isX (by have := hc.1; simp only [Bool.and_eq_true, Bool.not_eq_true'] at this; exact this.2)) h
        have e : sl' = sl := (step_loc hc.1 h1 fun _ _ => rfl).1
        subst e
        obtain ⟨h3, h4⟩ := putK_put h2
        split at h4
        · rename_i d hd
          rw [hd] at h4
          split at h4
          · rename_i hr
            rw [Bool.and_eq_true, List.all_eq_true] at hr
            obtain ⟨us, sl2, h5, h6⟩ := segK_run os (k + 1) _ h4
            exact ⟨_, _, .st hw hc.1 hc.2 h1 hd h3 hr.1 hr.2 h5, h6⟩
          · exact h4.elim
        · exact h4.elim
      · exact h.elim
    · rename_i s tv hw
      split at h
      · rename_i s' u ha
        split at h
        · rename_i d hd
          split at h
          · rename_i hc
            simp only [Bool.and_eq_true, Bool.not_eq_true', Option.isNone_iff_eq_none, beq_iff_eq, List.all_eq_true, beq_eq_false_iff_ne] at hc
            obtain ⟨⟨⟨⟨⟨⟨⟨⟨⟨rfl, rfl⟩, hg⟩, hown⟩, hu⟩, hus⟩, hds⟩, hsl⟩, hf⟩, hr⟩ := hc
            obtain ⟨c0, e1, e2, e3⟩ : ∃ c, o.op = .call c ∧ c.callee = .builtin .append ∧ c.args.toList = [.tmp s', .tmp u] := by
              unfold appT at ha
              split at ha
              · rename_i c0 e1
                split at ha
                · rename_i e2 e3
                  simp only [Option.some.injEq, Prod.mk.injEq] at ha
                  obtain ⟨rfl, rfl⟩ := ha
                  exact ⟨c0, e1, e2, e3⟩
                · cases ha
              · cases ha
            have hx : isX C o = true := by unfold isX; rw [e1]; dsimp only; rw [e2]
            have hb : boxIo C o = none := by unfold boxIo; rw [e1]
            obtain ⟨x, sl1, h1, h2⟩ := stepK_step hb h
            obtain ⟨h3, h4⟩ := putK_put h2
            have h1 : ∃ t y z cs, c0.argTypes.toList = [t, t] ∧ c0.args.toList = [y, z] ∧ appV C.tb sl t y z = some (cs, x, sl1) ∧ ∀ p ∈ cs, p := by
              simp only [StepR, hg, OutR, hx, if_true, OutX, e1, e2] at h1
              exact h1
            obtain ⟨ty, y, z, cs, g1, g2, g3, g4⟩ := h1
            rw [e3] at g2
            simp only [List.cons.injEq, and_true] at g2
            obtain ⟨rfl, rfl⟩ := g2
            have hrr : ∀ y ∈ sl, s' ∉ y.roots := fun y hy => by simpa using hr y hy
            obtain ⟨q1, q2, q3⟩ := app_loc g3 hown hu hus hrr hrr rfl fun _ _ => ⟨rfl, fun _ _ => rfl⟩
            rw [q1, hd] at h4
            obtain ⟨us, sl2, h5, h6⟩ := segK_run os (k + 1) _ h4
            exact ⟨_, _, .ap hw ⟨hd, hg, ⟨c0, e1, e2, e3, g1⟩, hx, hb⟩ h3 hown hu hus hds (Nat.le_of_ble_eq_true hsl) hf hrr q3 g4 q2 h5, h6⟩
          · exact h.elim
        · exact h.elim
      split at h
      · rename_i hc
        simp only [Bool.and_eq_true, Bool.not_eq_true', Option.isNone_iff_eq_none, beq_iff_eq, List.all_eq_true] at hc
        obtain ⟨⟨⟨⟨⟨⟨hx, hd⟩, hg⟩, hT⟩, hs⟩, hf⟩, hk⟩ := hc
        obtain ⟨x, sl1, h1, h2⟩ := stepK_step (boxIo_isX hx) h
        obtain ⟨h3, h4⟩ := putK_put h2
        rw [hd] at h4
        have h4 : if (ownForm (gt sl s) == ownForm (gt sl1 s) && (gt sl1 s).roots.isEmpty) = true then segK P C ops tab wr seg c os (k + 1) sl1 K else False := h4
        obtain ⟨t, a, y, hop⟩ := storeT_op hT
        have h1' : ∃ cs, opV C.tb sl o.type o.op = some (cs, x, sl1) ∧ ∀ p ∈ cs, p := by
          simp only [StepR, hg, OutR, hx, Bool.false_eq_true, if_false, OutR0, hop] at h1
          rw [hop]; exact h1
        obtain ⟨cs, g1, g2⟩ := h1'
        by_cases hr : (ownForm (gt sl s) == ownForm (gt sl1 s) && (gt sl1 s).roots.isEmpty) = true
        · rw [if_pos hr] at h4
          simp only [Bool.and_eq_true, beq_iff_eq, List.isEmpty_iff] at hr
          obtain ⟨us, sl2, h5, h6⟩ := segK_run os (k + 1) _ h4
          exact ⟨_, _, .wr hw hx hd hg hT (by simpa using hs) hf (fun y hy => ⟨(hk y hy).1, by simpa using (hk y hy).2⟩) g1 g2 hr.1 hr.2 h5, h6⟩
        · rw [if_neg hr] at h4; exact h4.elim
      · exact h.elim

/-- Slot t, when the operations of L have run. -/
def mrgT {α : Type} (L : Nat → Bool) (t : Nat) : List (List (Nat × α)) → Nat → α → α
  | [], _, y => y
  | u :: r, j, y => mrgT L t r (j + 1) (if L j then (u.lookup t).getD y else y)
def mrg (L : Nat → Bool) (sl0 : Sl) (us : List Ups) (c : Nat) : Sl := (List.range sl0.length).map fun t => mrgT L t us c (gt sl0 t)

theorem mrg_len {L : Nat → Bool} {sl0 : Sl} {us : List Ups} {c : Nat} : (mrg L sl0 us c).length = sl0.length := by simp [mrg]
theorem gt_mrg {L : Nat → Bool} {sl0 : Sl} {us : List Ups} {c t : Nat} : gt (mrg L sl0 us c) t = if t < sl0.length then mrgT L t us c (gt sl0 t) else .dead := by
  unfold gt mrg
  by_cases h : t < sl0.length
  · simp [h, gt]
  · simp [h]
theorem mrgT_congr {α : Type} {L L' : Nat → Bool} {t : Nat} : ∀ (us : List (List (Nat × α))) (c : Nat) (y : α), (∀ (i : Nat) (u : List (Nat × α)), us[i]? = some u → (u.lookup t).isSome = true → L (c + i) = L' (c + i)) → mrgT L t us c y = mrgT L' t us c y
  | [], _, _, _ => rfl
  | u :: r, c, y, h => by
    have e : ∀ y, mrgT L t r (c + 1) y = mrgT L' t r (c + 1) y := fun y => mrgT_congr r (c + 1) y fun i u' hi hd => by
      have := h (i + 1) u' (by simpa using hi) hd
      rwa [show c + (i + 1) = c + 1 + i by omega] at this
    simp only [mrgT, e]
    cases hl : u.lookup t with
    | none => simp
    | some x =>
      have := h 0 u rfl (by rw [hl]; rfl)
      rw [Nat.add_zero] at this
      rw [this]
theorem mrgT_none {α : Type} {L : Nat → Bool} {t : Nat} : ∀ (us : List (List (Nat × α))) (c : Nat) (y : α), (∀ (i : Nat) (u : List (Nat × α)), us[i]? = some u → (u.lookup t).isSome = true → L (c + i) = false) → mrgT L t us c y = y
  | [], _, _, _ => rfl
  | u :: r, c, y, h => by
    have e : ∀ y, mrgT L t r (c + 1) y = y := fun y => mrgT_none r (c + 1) y fun i u' hi hd => by
      have := h (i + 1) u' (by simpa using hi) hd
      rwa [show c + (i + 1) = c + 1 + i by omega] at this
    simp only [mrgT, e]
    cases hl : u.lookup t with
    | none => simp
    | some x =>
      have := h 0 u rfl (by rw [hl]; rfl)
      rw [Nat.add_zero] at this
      simp [this]
/-- The last one that sets t, when it has run. -/
theorem mrgT_some {α : Type} {L : Nat → Bool} {t : Nat} {x : α} : ∀ (us : List (List (Nat × α))) (c i : Nat) (y : α) (u : List (Nat × α)), us[i]? = some u → u.lookup t = some x → L (c + i) = true →
    (∀ i' u', us[i']? = some u' → (u'.lookup t).isSome = true → i < i' → L (c + i') = false) → mrgT L t us c y = x
  | [], _, i, _, _, h, _, _, _ => by simp at h
  | u0 :: r, c, 0, y, u, h, hd, hl, hu => by
    simp only [List.getElem?_cons_zero, Option.some.injEq] at h
    subst h
    rw [Nat.add_zero] at hl
    simp only [mrgT, hl, hd, if_true, Option.getD_some]
    exact mrgT_none r (c + 1) x fun i u' hi hs => by
      have := hu (i + 1) u' (by simpa using hi) hs (by omega)
      rwa [show c + (i + 1) = c + 1 + i by omega] at this
  | u0 :: r, c, i + 1, y, u, h, hd, hl, hu => by
    simp only [mrgT]
    refine mrgT_some r (c + 1) i _ u (by simpa using h) hd (by rw [show c + 1 + i = c + (i + 1) by omega]; exact hl) fun i' u' h' hs hlt => ?_
    have := hu (i' + 1) u' (by simpa using h') hs (by omega)
    rwa [show c + (i' + 1) = c + 1 + i' by omega] at this
theorem mrgT_cases {α : Type} {L : Nat → Bool} {t : Nat} : ∀ (us : List (List (Nat × α))) (c : Nat) (y : α), mrgT L t us c y = y ∨ ∃ i u x, us[i]? = some u ∧ u.lookup t = some x ∧ L (c + i) = true ∧ mrgT L t us c y = x
  | [], _, _ => .inl rfl
  | u :: r, c, y => by
    simp only [mrgT]
    rcases mrgT_cases (L := L) (t := t) r (c + 1) (if L c then (u.lookup t).getD y else y) with h' | ⟨i, u', x', h1, h2, h3, h4⟩
    · rw [h']
      by_cases hL : L c = true
      · rw [if_pos hL]
        cases hl : u.lookup t with
        | none => exact .inl rfl
        | some x => exact .inr ⟨0, u, x, rfl, hl, hL, rfl⟩
      · rw [if_neg hL]; exact .inl rfl
    · exact .inr ⟨i + 1, u', x', by simpa using h1, h2, by rw [show c + (i + 1) = c + 1 + i by omega]; exact h3, h4⟩

theorem lookOk_spec {k t : Nat} : ∀ (os : List Oper) (c i : Nat) (o : Oper), lookOk tab wr k t os c = true → os[i]? = some o → t ∈ tgts wr (c + i) o →
    c + i = k ∨ (c + i < k ∧ (tab.getD k 0).testBit (c + i) = true) ∨ (k < c + i ∧ (tab.getD (c + i) 0).testBit k = true)
  | [], _, i, o, _, h, _ => by simp at h
  | o0 :: os, c, 0, o, hl, h, hd => by
    simp only [List.getElem?_cons_zero, Option.some.injEq] at h
    subst h
    rw [Nat.add_zero] at hd
    have hd : (tgts wr c o0).contains t = true := by simpa using hd
    simp only [lookOk, hd, Bool.not_true, Bool.false_or, Bool.and_eq_true, Bool.or_eq_true, beq_iff_eq] at hl
    rcases hl.1 with (h | h) | h
    · exact .inl h
    · exact .inr (.inl ⟨Nat.le_of_ble_eq_true h.1, h.2⟩)
    · exact .inr (.inr ⟨Nat.le_of_ble_eq_true h.1, h.2⟩)
  | o0 :: os, c, i + 1, o, hl, h, hd => by
    simp only [lookOk, Bool.and_eq_true] at hl
    rw [show c + (i + 1) = c + 1 + i by omega] at hd ⊢
    exact lookOk_spec os (c + 1) i o hl.2 (by simpa using h) hd
theorem hangOk_spec {k t : Nat} : ∀ (os : List Oper) (c i : Nat) (o : Oper), hangOk tab wr k t os c = true → os[i]? = some o → t ∈ kills wr (c + i) o → c + i < k ∧ (tab.getD k 0).testBit (c + i) = true
  | [], _, i, o, _, h, _ => by simp at h
  | o0 :: os, c, 0, o, hl, h, hd => by
    simp only [List.getElem?_cons_zero, Option.some.injEq] at h
    subst h
    rw [Nat.add_zero] at hd
    have hd : (kills wr c o0).contains t = true := by simpa using hd
    simp only [hangOk, hd, Bool.not_true, Bool.false_or, Bool.and_eq_true] at hl
    exact ⟨Nat.le_of_ble_eq_true hl.1.1, hl.1.2⟩
  | o0 :: os, c, i + 1, o, hl, h, hd => by
    simp only [hangOk, Bool.and_eq_true] at hl
    rw [show c + (i + 1) = c + 1 + i by omega] at hd ⊢
    exact hangOk_spec os (c + 1) i o hl.2 (by simpa using h) hd
theorem ordB_spec {k t : Nat} {ts : List Nat} : ∀ (os : List Oper) (c i : Nat) (o : Oper), ordB tab wr k ts os c = true → os[i]? = some o → t ∈ tgts wr (c + i) o → t ∈ ts → c + i < k → (tab.getD k 0).testBit (c + i) = true
  | [], _, i, o, _, h, _, _, _ => by simp at h
  | o0 :: os, c, 0, o, hl, h, hd, ht, hlt => by
    simp only [List.getElem?_cons_zero, Option.some.injEq] at h
    subst h
    rw [Nat.add_zero] at hd hlt ⊢
    simp only [ordB, Bool.and_eq_true, Bool.or_eq_true] at hl
    rcases hl.1 with (h | h) | h
    · have := Nat.le_of_ble_eq_true h; omega
    · have : ((tgts wr c o0).any ts.contains) = true := List.any_eq_true.2 ⟨t, hd, by simpa using ht⟩
      rw [this] at h; cases h
    · exact h
  | o0 :: os, c, i + 1, o, hl, h, hd, ht, hlt => by
    simp only [ordB, Bool.and_eq_true] at hl
    rw [show c + (i + 1) = c + 1 + i by omega] at hd hlt ⊢
    exact ordB_spec os (c + 1) i o hl.2 (by simpa using h) hd ht hlt
theorem ordAll_spec {t : Nat} {seg : List Oper} {c0 : Nat} : ∀ (os : List Oper) (c i : Nat) (o : Oper) (j : Nat) (o' : Oper), ordAll tab wr seg c0 os c = true → os[i]? = some o → seg[j]? = some o' →
    t ∈ tgts wr (c + i) o → t ∈ tgts wr (c0 + j) o' → c0 + j < c + i → (tab.getD (c + i) 0).testBit (c0 + j) = true
  | [], _, i, o, _, _, _, h, _, _, _, _ => by simp at h
  | o0 :: os, c, 0, o, j, o', hl, h, hj, hd, hd', hlt => by
    simp only [List.getElem?_cons_zero, Option.some.injEq] at h
    subst h
    rw [Nat.add_zero] at hd hlt ⊢
    simp only [ordAll, Bool.and_eq_true] at hl
    exact ordB_spec seg c0 j o' hl.1 hj hd' hd hlt
  | o0 :: os, c, i + 1, o, j, o', hl, h, hj, hd, hd', hlt => by
    simp only [ordAll, Bool.and_eq_true] at hl
    rw [show c + (i + 1) = c + 1 + i by omega] at hd hlt ⊢
    exact ordAll_spec os (c + 1) i o j o' hl.2 (by simpa using h) hj hd hd' hlt
theorem killsOf_spec {t : Nat} : ∀ (os : List Oper) (c i : Nat) (o : Oper), os[i]? = some o → t ∈ kills wr (c + i) o → t ∈ killsOf wr os c
  | [], _, i, o, h, _ => by simp at h
  | o0 :: os, c, 0, o, h, hd => by
    simp only [List.getElem?_cons_zero, Option.some.injEq] at h
    subst h
    exact List.mem_append_left _ hd
  | o0 :: os, c, i + 1, o, h, hd => by
    rw [show c + (i + 1) = c + 1 + i by omega] at hd
    exact List.mem_append_right _ (killsOf_spec os (c + 1) i o (by simpa using h) hd)

theorem rooted_spec {d : Nat} : ∀ sl : Sl, rooted sl d = false → ∀ x ∈ sl, d ∉ x.roots
  | [], _, x, hx => by cases hx
  | y :: ys, h, x, hx => by
    simp only [rooted] at h
    by_cases hy : y.roots.contains d = true
    · rw [if_pos hy] at h; cases h
    · rw [if_neg hy] at h
      rcases List.mem_cons.1 hx with rfl | hx
      · simpa using hy
      · exact rooted_spec ys h x hx
theorem kBs_at {y : SV} {k s : Nat} {tv : List Nat} (h : kBs wr y = true) (hw : wr.lookup k = some (s, tv)) : kB s y = true := by
  have : ∀ (l : List (Nat × Nat × List Nat)), l.lookup k = some (s, tv) → (k, s, tv) ∈ l := by
    intro l
    induction l with
    | nil => intro h; cases h
    | cons a l ih =>
      obtain ⟨a1, a2⟩ := a
      intro h
      simp only [List.lookup_cons] at h
      split at h
      · rename_i e
        have e : k = a1 := by simpa using e
        cases h
        subst e
        exact List.mem_cons_self ..
      · exact List.mem_cons_of_mem _ (ih h)
  exact List.all_eq_true.1 h _ (this wr hw)
theorem kBs_nil {y : SV} (h : y.roots = []) : kBs wr y = true := by
  unfold kBs
  rw [List.all_eq_true]
  intro w _
  simp [kB, h]
theorem lookup_dead {q : Nat} : ∀ tv : List Nat, (tv.map fun t => (t, SV.dead)).lookup q = if q ∈ tv then some .dead else none
  | [] => rfl
  | t :: ts => by
    simp only [List.map_cons, List.lookup_cons, lookup_dead ts, List.mem_cons]
    by_cases e : q = t
    · subst e; simp
    · have : (q == t) = false := by simpa using e
      rw [this]; simp [e]
theorem lookup_wr {s q : Nat} {x : SV} {tv : List Nat} : ((s, x) :: tv.map fun t => (t, SV.dead)).lookup q = if q = s then some x else if q ∈ tv then some .dead else none := by
  simp only [List.lookup_cons, lookup_dead]
  by_cases e : q = s
  · subst e; simp
  · have : (q == s) = false := by simpa using e
    rw [this]; simp [e]

/-- What all operations of a segment are known to do, by the text's own run. -/
structure Seg (tab : List Nat) (wr : List (Nat × Nat × List Nat)) (seg : List Oper) (c : Nat) (sl0 : Sl) (us : List Ups) : Prop where
  len : us.length = seg.length
  tg : ∀ (i : Nat) (u : Ups) (o : Oper) (t : Nat), us[i]? = some u → seg[i]? = some o → (u.lookup t).isSome = true → t ∈ tgts wr (c + i) o
  ord : ∀ (i : Nat) (o : Oper) (j : Nat) (o' : Oper) (t : Nat), seg[i]? = some o → seg[j]? = some o' → t ∈ tgts wr (c + i) o → t ∈ tgts wr (c + j) o' → j < i → (tab.getD (c + i) 0).testBit (c + j) = true
  clear : ∀ (i : Nat) (o : Oper), seg[i]? = some o → ∀ t ∈ kills wr (c + i) o, ∀ x ∈ sl0, t ∉ x.roots
  hang : ∀ (i : Nat) (u : Ups) (x : SV) (t : Nat), us[i]? = some u → u.lookup t = some x → t < sl0.length → ∀ r ∈ x.roots, hangOk tab wr (c + i) r seg c = true
  kb0 : ∀ x ∈ sl0, kBs wr x = true
  kbu : ∀ (i : Nat) (u : Ups) (x : SV) (t : Nat), us[i]? = some u → u.lookup t = some x → t < sl0.length → kBs wr x = true

section
variable {sl0 : Sl} {us : List Ups}

theorem Seg.at (h : Seg tab wr seg c sl0 us) {i : Nat} {u : Ups} (hi : us[i]? = some u) : ∃ o, seg[i]? = some o := by
  have := (List.getElem?_eq_some_iff.1 hi).1
  rw [h.len] at this
  exact ⟨_, List.getElem?_eq_getElem this⟩

/-- What stands in a merged state doesn't hang on what has yet to be set. -/
theorem Seg.clean (h : Seg tab wr seg c sl0 us) {L : Nat → Bool} (hcl : ∀ j, L j = true → ∀ b, (tab.getD j 0).testBit b = true → L b = true) {i : Nat} {o : Oper}
    (ho : seg[i]? = some o) (hL : L (c + i) = false) : ∀ y ∈ mrg L sl0 us c, kBs wr y = true ∧ ∀ t ∈ kills wr (c + i) o, t ∉ y.roots := by
  intro y hy
  obtain ⟨q, hq, rfl⟩ := List.mem_map.1 hy
  have hq' : q < sl0.length := by simpa using hq
  rcases mrgT_cases (L := L) (t := q) us c (gt sl0 q) with e | ⟨j, u, x, g1, g2, g3, g4⟩
  · rw [e]
    exact ⟨h.kb0 _ (gt_mem hq'), fun t ht hr => h.clear i o ho t ht _ (gt_mem hq') hr⟩
  · rw [g4]
    refine ⟨h.kbu j u x q g1 g2 hq', fun t ht hr => ?_⟩
    obtain ⟨h1, h2⟩ := hangOk_spec seg c i o (h.hang j u x q g1 g2 hq' t hr) ho ht
    have := hcl _ g3 _ h2
    rw [hL] at this; cases this

/-- One more operation has run. -/
theorem Seg.next (h : Seg tab wr seg c sl0 us) {L : Nat → Bool} (hcl : ∀ j, L j = true → ∀ b, (tab.getD j 0).testBit b = true → L b = true) {i : Nat} {u : Ups}
    (hi : us[i]? = some u) (hL : L (c + i) = false) {sl' : Sl} (hl : sl'.length = sl0.length) (hg : ∀ q, q < sl0.length → gt sl' q = (u.lookup q).getD (gt (mrg L sl0 us c) q)) : sl' = mrg (upd L (c + i)) sl0 us c := by
  refine List.ext_getElem (by rw [hl, mrg_len]) fun t h1 h2 => ?_
  have ht : t < sl0.length := by omega
  have e : sl'[t] = gt sl' t := by simp [gt, h1]
  rw [e, hg t ht]
  simp only [mrg, List.getElem_map, List.getElem_range]
  have e2 : gt (List.map (fun t => mrgT L t us c (gt sl0 t)) (List.range sl0.length)) t = mrgT L t us c (gt sl0 t) := by
    have := gt_mrg (L := L) (sl0 := sl0) (us := us) (c := c) (t := t)
    rw [if_pos ht] at this
    exact this
  rw [e2]
  obtain ⟨o, ho⟩ := h.at hi
  cases hlk : u.lookup t with
  | some x =>
    refine (mrgT_some us c i _ u hi hlk (by simp [upd]) fun i' u' h' hs hlt => ?_).symm
    obtain ⟨o', ho'⟩ := h.at h'
    have b := h.ord i' o' i o t ho' ho (h.tg i' u' o' t h' ho' hs) (h.tg i u o t hi ho (by rw [hlk]; rfl)) hlt
    simp only [upd]
    rw [if_neg (by omega)]
    cases hL' : L (c + i') with
    | false => rfl
    | true => have := hcl _ hL' _ b; rw [hL] at this; cases this
  | none =>
    refine mrgT_congr us c _ fun i' u' h' hs => ?_
    have : i' ≠ i := fun e => by
      subst e
      rw [hi] at h'
      cases h'
      rw [hlk] at hs; cases hs
    simp only [upd]
    rw [if_neg (by omega)]

theorem gt_mem_of {m : Sl} {q : Nat} (h : q < m.length) {p : SV → Prop} (hp : ∀ y ∈ m, p y) : p (gt m q) := hp _ (gt_mem h)

/-- A reading operation has run. -/
theorem Seg.put (h : Seg tab wr seg c sl0 us) {L : Nat → Bool} (hcl : ∀ j, L j = true → ∀ b, (tab.getD j 0).testBit b = true → L b = true) {i d : Nat} {o : Oper} {x : SV}
    (hi : us[i]? = some [(d, killSV d x)]) (ho : seg[i]? = some o) (hd : o.dst = some d) (hL : L (c + i) = false) : DL.put (mrg L sl0 us c) (some d) x = mrg (upd L (c + i)) sl0 us c := by
  refine h.next hcl hi hL (by simp [DL.put, putT, mrg_len]) fun q hq => ?_
  have hq' : q < (mrg L sl0 us c).length := by rw [mrg_len]; exact hq
  have cl := h.clean hcl ho hL
  have hdk : d ∈ kills wr (c + i) o := by simp [kills, hd]
  have e : (mrg L sl0 us c).map (killSV d) = mrg L sl0 us c := map_same fun y hy => kill_id ((cl y hy).2 d hdk)
  show gt (((mrg L sl0 us c).map (killSV d)).set d (killSV d x)) q = _
  rw [e]
  by_cases hdl : d < (mrg L sl0 us c).length
  · rw [gt_set hdl]
    simp only [List.lookup_cons, List.lookup_nil]
    by_cases e : q = d
    · subst e; simp
    · have : (q == d) = false := by simpa using e
      simp [this, e]
  · rw [List.set_eq_of_length_le (by omega)]
    have : (q == d) = false := by simp; omega
    simp [List.lookup_cons, this]

/-- An 'append' has run. -/
theorem Seg.app (h : Seg tab wr seg c sl0 us) {L : Nat → Bool} (hcl : ∀ j, L j = true → ∀ b, (tab.getD j 0).testBit b = true → L b = true) {i d s : Nat} {o : Oper} {x : SV}
    (hi : us[i]? = some [(d, x), (s, SV.dead)]) (ho : seg[i]? = some o) (hw : wr.lookup (c + i) = some (s, [s])) (hd : o.dst = some d) (hds : d ≠ s) (hx : x.roots = []) (hL : L (c + i) = false) (hs : s < sl0.length) :
    DL.put ((mrg L sl0 us c).set s .dead) (some d) x = mrg (upd L (c + i)) sl0 us c := by
  refine h.next hcl hi hL (by simp [DL.put, putT, mrg_len]) fun q hq => ?_
  have cl := h.clean hcl ho hL
  have hdk : d ∈ kills wr (c + i) o := by simp [kills, hd]
  have e : ((mrg L sl0 us c).set s SV.dead).map (killSV d) = (mrg L sl0 us c).set s .dead := map_same fun y hy => by
    rcases List.mem_or_eq_of_mem_set hy with hy | rfl
    · exact kill_id ((cl y hy).2 d hdk)
    · unfold killSV; split <;> rfl
  have ex : killSV d x = x := kill_id (by rw [hx]; simp)
  show gt ((((mrg L sl0 us c).set s .dead).map (killSV d)).set d (killSV d x)) q = _
  rw [e, ex]
  simp only [List.lookup_cons, List.lookup_nil]
  by_cases e1 : q = d
  · subst e1
    rw [gt_set (by rw [List.length_set, mrg_len]; exact hq)]
    simp
  · have b1 : (q == d) = false := by simpa using e1
    have : gt (((mrg L sl0 us c).set s .dead).set d x) q = gt ((mrg L sl0 us c).set s .dead) q := gt_set_ne e1
    rw [this, b1]
    by_cases e2 : q = s
    · subst e2
      rw [gt_set (by rw [mrg_len]; exact hq)]
      simp
    · have b2 : (q == s) = false := by simpa using e2
      rw [gt_set_ne e2, b2]
      rfl

/-- A store has run. -/
theorem Seg.store (h : Seg tab wr seg c sl0 us) {L : Nat → Bool} (hcl : ∀ j, L j = true → ∀ b, (tab.getD j 0).testBit b = true → L b = true) {i s : Nat} {tv : List Nat} {o : Oper} {sl sl1 : Sl} {cs : List Prop} {x : SV}
    (hi : us[i]? = some ((s, gt sl1 s) :: tv.map fun t => (t, SV.dead))) (ho : seg[i]? = some o) (hw : wr.lookup (c + i) = some (s, tv)) (hL : L (c + i) = false)
    (hT : storeT C.tb sl o.type o.op = some (s, tv)) (hop : opV C.tb sl o.type o.op = some (cs, x, sl1)) (hstv : s ∉ tv) (hk : ∀ y ∈ sl, kB s y = true ∧ ∀ t ∈ tv, t ∉ y.roots)
    (hl : sl.length = sl0.length) (hok : ∀ y ∈ o.op.operands, OkOp sl (mrg L sl0 us c) y) (hss : gt (mrg L sl0 us c) s = gt sl s) :
    opV C.tb (mrg L sl0 us c) o.type o.op = some (cs, .und, mrg (upd L (c + i)) sl0 us c) := by
  have cl := h.clean hcl ho hL
  have hkt : ∀ t ∈ tv, t ∈ kills wr (c + i) o := fun t ht => by simp [kills, wrK, hw, ht]
  obtain ⟨-, -, sl2', h1, h2, h3⟩ := store_eff hT hop hstv hk (by rw [mrg_len, hl]) hok hss fun y hy => ⟨kBs_at (cl y hy).1 hw, fun t ht => (cl y hy).2 t (hkt t ht)⟩
  have e := h.next hcl hi hL (h2.trans mrg_len) fun q hq => by
    rw [h3 q (by rw [mrg_len]; exact hq), lookup_wr]
    by_cases e : q = s
    · simp [e]
    · by_cases e2 : q ∈ tv
      · simp [e, e2]
      · simp [e, e2]
  rw [← e]
  exact h1
end
end
end Go.Proofs.Ytckcehmggdnliaa.DL
