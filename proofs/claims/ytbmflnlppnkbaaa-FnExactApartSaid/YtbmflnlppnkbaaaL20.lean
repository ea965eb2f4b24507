/- The data level, part 20: regions whose operations may run in more than one order. -/
import Derived.Test.YtbmflnlppnkbaaaL19
namespace Go.Proofs.Ytbmflnlppnkbaaa.DL
open Go Go.RowKit

/-- The text's own run of a segment: each operation's value, and what was looked at. -/
inductive Run (P : Program) (C : Cfg) (ops : List Oper) (tab : List Nat) (seg : List Oper) (c : Nat) : List Oper → Nat → Sl → List SV → Sl → Prop
  | nil {k : Nat} {sl : Sl} : Run P C ops tab seg c [] k sl [] sl
  | cons {o : Oper} {os : List Oper} {k d : Nat} {sl sl' : Sl} {x : SV} {xs : List SV} : still sl o.op = true → (∀ t ∈ foot ops o sl, lookOk tab k t seg c = true) → StepR P C ops o sl x sl →
      o.dst = some d → (∀ t ∈ C.pin, o.dst ≠ some t) → (∀ t ∈ (gt (put sl (some d) x) d).roots, hangOk tab k t seg c = true) →
      Run P C ops tab seg c os (k + 1) (put sl (some d) x) xs sl' → Run P C ops tab seg c (o :: os) k sl (killSV d x :: xs) sl'

section
variable {P : Program} {C : Cfg} {ops : List Oper} {tab : List Nat} {seg : List Oper} {c : Nat}

theorem segK_run {K : Sl → Prop} : ∀ (os : List Oper) (k : Nat) (sl : Sl), segK P C ops tab seg c os k sl K → ∃ xs sl', Run P C ops tab seg c os k sl xs sl' ∧ K sl'
  | [], k, sl, h => ⟨[], sl, .nil, h⟩
  | o :: os, k, sl, h => by
    simp only [segK] at h
    split at h
    · rename_i hc
      simp only [Bool.and_eq_true, List.all_eq_true] at hc
      obtain ⟨x, sl', h1, h2⟩ := stepK_step h
      have e : sl' = sl := (step_loc hc.1 h1 fun _ _ => rfl).1
      subst e
      obtain ⟨h3, h4⟩ := putK_put h2
      split at h4
      · rename_i d hd
        rw [hd] at h4
        split at h4
        · rename_i hr
          obtain ⟨xs, sl2, h5, h6⟩ := segK_run os (k + 1) _ h4
          exact ⟨_, _, .cons hc.1 hc.2 h1 hd h3 (by simpa using hr) h5, h6⟩
        · exact h4.elim
      · exact h4.elim
    · exact h.elim

/-- Slot t, when the operations of L have run. -/
def mrgT (L : Nat → Bool) (t : Nat) : List (Oper × SV) → Nat → SV → SV
  | [], _, y => y
  | (o, x) :: r, j, y => if dstIs o t && L j then x else mrgT L t r (j + 1) y
def mrg (L : Nat → Bool) (sl0 : Sl) (ox : List (Oper × SV)) (c : Nat) : Sl := (List.range sl0.length).map fun t => mrgT L t ox c (gt sl0 t)

theorem mrg_len {L : Nat → Bool} {sl0 : Sl} {ox : List (Oper × SV)} {c : Nat} : (mrg L sl0 ox c).length = sl0.length := by simp [mrg]
theorem gt_mrg {L : Nat → Bool} {sl0 : Sl} {ox : List (Oper × SV)} {c t : Nat} : gt (mrg L sl0 ox c) t = if t < sl0.length then mrgT L t ox c (gt sl0 t) else .dead := by
  unfold gt mrg
  by_cases h : t < sl0.length
  · simp [h, gt]
  · simp [h]
theorem mrgT_congr {L L' : Nat → Bool} {t : Nat} : ∀ (ox : List (Oper × SV)) (c : Nat) (y : SV), (∀ i o x, ox[i]? = some (o, x) → dstIs o t = true → L (c + i) = L' (c + i)) → mrgT L t ox c y = mrgT L' t ox c y
  | [], _, _, _ => rfl
  | (o, x) :: r, c, y, h => by
    have e := mrgT_congr (L := L) (L' := L') r (c + 1) y fun i o' x' hi hd => by
      have := h (i + 1) o' x' (by simpa using hi) hd
      rwa [show c + (i + 1) = c + 1 + i by omega] at this
    simp only [mrgT, e]
    by_cases hd : dstIs o t = true
    · have := h 0 o x rfl hd
      rw [Nat.add_zero] at this
      rw [this]
    · simp [hd]
theorem mrgT_none {L : Nat → Bool} {t : Nat} : ∀ (ox : List (Oper × SV)) (c : Nat) (y : SV), (∀ i o x, ox[i]? = some (o, x) → dstIs o t = true → L (c + i) = false) → mrgT L t ox c y = y
  | [], _, _, _ => rfl
  | (o, x) :: r, c, y, h => by
    have e := mrgT_none (L := L) r (c + 1) y fun i o' x' hi hd => by
      have := h (i + 1) o' x' (by simpa using hi) hd
      rwa [show c + (i + 1) = c + 1 + i by omega] at this
    simp only [mrgT, e]
    by_cases hd : dstIs o t = true
    · have := h 0 o x rfl hd
      rw [Nat.add_zero] at this
      simp [this]
    · simp [hd]
/-- The one that sets t, when it has run. -/
theorem mrgT_some {L : Nat → Bool} {t : Nat} : ∀ (ox : List (Oper × SV)) (c i : Nat) (y : SV) (o : Oper) (x : SV), ox[i]? = some (o, x) → dstIs o t = true → L (c + i) = true →
    (∀ i' o' x', ox[i']? = some (o', x') → dstIs o' t = true → i' = i) → mrgT L t ox c y = x
  | [], _, i, _, _, _, h, _, _, _ => by simp at h
  | (o0, x0) :: r, c, 0, y, o, x, h, hd, hl, _ => by
    simp only [List.getElem?_cons_zero, Option.some.injEq, Prod.mk.injEq] at h
    obtain ⟨rfl, rfl⟩ := h
    simp only [mrgT, hd, Nat.add_zero] at hl ⊢
    simp [hl]
  | (o0, x0) :: r, c, i + 1, y, o, x, h, hd, hl, hu => by
    have h0 : dstIs o0 t = false := by
      cases hd0 : dstIs o0 t with
      | false => rfl
      | true => have := hu 0 o0 x0 rfl hd0; omega
    simp only [mrgT, h0, Bool.false_and, Bool.false_eq_true, if_false]
    refine mrgT_some r (c + 1) i y o x (by simpa using h) hd (by rw [show c + 1 + i = c + (i + 1) by omega]; exact hl) fun i' o' x' h' hd' => ?_
    have := hu (i' + 1) o' x' (by simpa using h') hd'
    omega
theorem mrgT_cases {L : Nat → Bool} {t : Nat} : ∀ (ox : List (Oper × SV)) (c : Nat) (y : SV), mrgT L t ox c y = y ∨ ∃ i o x, ox[i]? = some (o, x) ∧ dstIs o t = true ∧ L (c + i) = true ∧ mrgT L t ox c y = x
  | [], _, _ => .inl rfl
  | (o, x) :: r, c, y => by
    simp only [mrgT]
    by_cases h : (dstIs o t && L c) = true
    · rw [if_pos h]
      simp only [Bool.and_eq_true] at h
      exact .inr ⟨0, o, x, rfl, h.1, h.2, rfl⟩
    · rw [if_neg h]
      rcases mrgT_cases (L := L) (t := t) r (c + 1) y with h' | ⟨i, o', x', h1, h2, h3, h4⟩
      · exact .inl h'
      · exact .inr ⟨i + 1, o', x', by simpa using h1, h2, by rw [show c + (i + 1) = c + 1 + i by omega]; exact h3, h4⟩

theorem lookOk_spec {k t : Nat} : ∀ (os : List Oper) (c i : Nat) (o : Oper), lookOk tab k t os c = true → os[i]? = some o → dstIs o t = true →
    c + i = k ∨ (c + i < k ∧ (tab.getD k 0).testBit (c + i) = true) ∨ (k < c + i ∧ (tab.getD (c + i) 0).testBit k = true)
  | [], _, i, o, _, h, _ => by simp at h
  | o0 :: os, c, 0, o, hl, h, hd => by
    simp only [List.getElem?_cons_zero, Option.some.injEq] at h
    subst h
    simp only [lookOk, hd, Bool.not_true, Bool.false_or, Bool.and_eq_true, Bool.or_eq_true, beq_iff_eq] at hl
    rcases hl.1 with (h | h) | h
    · exact .inl h
    · exact .inr (.inl ⟨Nat.le_of_ble_eq_true h.1, h.2⟩)
    · exact .inr (.inr ⟨Nat.le_of_ble_eq_true h.1, h.2⟩)
  | o0 :: os, c, i + 1, o, hl, h, hd => by
    simp only [lookOk, Bool.and_eq_true] at hl
    have := lookOk_spec os (c + 1) i o hl.2 (by simpa using h) hd
    rwa [show c + 1 + i = c + (i + 1) by omega] at this
theorem hangOk_spec {k t : Nat} : ∀ (os : List Oper) (c i : Nat) (o : Oper), hangOk tab k t os c = true → os[i]? = some o → dstIs o t = true → c + i < k ∧ (tab.getD k 0).testBit (c + i) = true
  | [], _, i, o, _, h, _ => by simp at h
  | o0 :: os, c, 0, o, hl, h, hd => by
    simp only [List.getElem?_cons_zero, Option.some.injEq] at h
    subst h
    simp only [hangOk, hd, Bool.not_true, Bool.false_or, Bool.and_eq_true] at hl
    exact ⟨Nat.le_of_ble_eq_true hl.1.1, hl.1.2⟩
  | o0 :: os, c, i + 1, o, hl, h, hd => by
    simp only [hangOk, Bool.and_eq_true] at hl
    have := hangOk_spec os (c + 1) i o hl.2 (by simpa using h) hd
    rwa [show c + 1 + i = c + (i + 1) by omega] at this

theorem nodupB_spec : ∀ l : List Nat, nodupB l = true → l.Nodup
  | [], _ => List.nodup_nil
  | x :: xs, h => by
    simp only [nodupB, Bool.and_eq_true, Bool.not_eq_true'] at h
    exact List.nodup_cons.2 ⟨by simpa using h.1, nodupB_spec xs h.2⟩
theorem dst_unique {t : Nat} : ∀ (os : List Oper) (i i' : Nat) (o o' : Oper), (os.filterMap (·.dst)).Nodup → os[i]? = some o → os[i']? = some o' → dstIs o t = true → dstIs o' t = true → i = i'
  | [], i, _, _, _, _, h, _, _, _ => by simp at h
  | o0 :: os, i, i', o, o', hn, h, h', hd, hd' => by
    have dst : ∀ p : Oper, dstIs p t = true → p.dst = some t := fun p hp => by
      unfold dstIs at hp
      split at hp
      · rename_i d e; rw [e]; simpa using hp
      · cases hp
    have tail : (os.filterMap (·.dst)).Nodup := by
      rw [List.filterMap_cons] at hn
      split at hn
      · exact hn
      · exact (List.nodup_cons.1 hn).2
    have no : dstIs o0 t = true → ∀ (j : Nat) (p : Oper), os[j]? = some p → dstIs p t = true → False := fun h0 j p hp hdp => by
      rw [List.filterMap_cons, dst o0 h0] at hn
      exact (List.nodup_cons.1 hn).1 (List.mem_filterMap.2 ⟨p, List.mem_of_getElem? hp, dst p hdp⟩)
    cases i with
    | zero =>
      simp only [List.getElem?_cons_zero, Option.some.injEq] at h
      subst h
      cases i' with
      | zero => rfl
      | succ i' => exact (no hd i' o' (by simpa using h') hd').elim
    | succ i =>
      cases i' with
      | zero =>
        simp only [List.getElem?_cons_zero, Option.some.injEq] at h'
        subst h'
        exact (no hd' i o (by simpa using h) hd).elim
      | succ i' => rw [dst_unique os i i' o o' tail (by simpa using h) (by simpa using h') hd hd']

theorem rooted_spec {d : Nat} : ∀ sl : Sl, rooted sl d = false → ∀ x ∈ sl, d ∉ x.roots
  | [], _, x, hx => by cases hx
  | y :: ys, h, x, hx => by
    simp only [rooted] at h
    by_cases hy : y.roots.contains d = true
    · rw [if_pos hy] at h; cases h
    · rw [if_neg hy] at h
      rcases List.mem_cons.1 hx with rfl | hx
      · simpa using hy
      · exact rooted_spec ys h x hx

theorem kill_id {d : Nat} {x : SV} (h : d ∉ x.roots) : killSV d x = x := by simp [killSV, h]

/-- What all operations of a segment are known to do, by the text's own run. -/
structure Seg (P : Program) (C : Cfg) (ops : List Oper) (tab : List Nat) (seg : List Oper) (c : Nat) (sl0 : Sl) (ox : List (Oper × SV)) : Prop where
  fst : ox.map (·.1) = seg
  nodup : (seg.filterMap (·.dst)).Nodup
  clear : ∀ o ∈ seg, ∀ t, dstIs o t = true → ∀ x ∈ sl0, t ∉ x.roots
  hang : ∀ i o x u, ox[i]? = some (o, x) → dstIs o u = true → u < sl0.length → ∀ t ∈ x.roots, hangOk tab (c + i) t seg c = true

section
variable {sl0 : Sl} {ox : List (Oper × SV)}

theorem Seg.at (h : Seg P C ops tab seg c sl0 ox) {i : Nat} {o : Oper} {x : SV} (hi : ox[i]? = some (o, x)) : seg[i]? = some o := by
  rw [← h.fst, List.getElem?_map, hi]; rfl

/-- One more operation has run. -/
theorem Seg.put (h : Seg P C ops tab seg c sl0 ox) {L : Nat → Bool} (hcl : ∀ j, L j = true → ∀ b, (tab.getD j 0).testBit b = true → L b = true) {i d : Nat} {o : Oper} {x : SV}
    (hi : ox[i]? = some (o, killSV d x)) (hd : o.dst = some d) (hL : L (c + i) = false) : DL.put (mrg L sl0 ox c) (some d) x = mrg (upd L (c + i)) sl0 ox c := by
  have hdst : dstIs o d = true := by simp [dstIs, hd]
  have clean : ∀ y ∈ mrg L sl0 ox c, killSV d y = y := fun y hy => by
    refine kill_id fun hr => ?_
    obtain ⟨t, ht, rfl⟩ := List.mem_map.1 hy
    have ht' : t < sl0.length := by simpa using ht
    rcases mrgT_cases (L := L) (t := t) ox c (gt sl0 t) with e | ⟨j, o', x', g1, g2, g3, g4⟩
    · rw [e] at hr
      have : gt sl0 t ∈ sl0 := by
        unfold gt
        rw [List.getD_eq_getElem?_getD, List.getElem?_eq_getElem ht']
        exact List.getElem_mem _
      exact h.clear o (List.mem_of_getElem? (h.at hi)) d hdst _ this hr
    · rw [g4] at hr
      obtain ⟨h1, h2⟩ := hangOk_spec seg c i o (h.hang j o' x' t g1 g2 ht' d hr) (h.at hi) hdst
      have := hcl _ g3 _ h2
      rw [hL] at this; cases this
  show ((mrg L sl0 ox c).map (killSV d)).set d (killSV d x) = _
  rw [List.map_congr_left clean, List.map_id']
  refine List.ext_getElem (by simp [mrg_len]) fun t h1 h2 => ?_
  have ht : t < sl0.length := by simpa [mrg_len] using h2
  rw [List.getElem_set]
  split
  · rename_i e
    subst e
    simp only [mrg, List.getElem_map, List.getElem_range]
    exact (mrgT_some ox c i _ o _ hi hdst (by simp [upd]) fun i' o' x' h' hd' => dst_unique seg i' i o' o h.nodup (h.at h') (h.at hi) hd' hdst).symm
  · rename_i hne
    simp only [mrg, List.getElem_map, List.getElem_range]
    refine mrgT_congr ox c _ fun i' o' x' h' hd' => ?_
    have : i' ≠ i := fun e => by
      subst e
      rw [hi] at h'
      simp only [Option.some.injEq, Prod.mk.injEq] at h'
      obtain ⟨rfl, -⟩ := h'
      unfold dstIs at hd'
      rw [hd] at hd'
      exact hne (by simpa using hd')
    simp only [upd]
    rw [if_neg (by omega)]

/-- The text's own states are merged states. -/
theorem Run.states {os : List Oper} {k : Nat} {sl sl' : Sl} {xs : List SV} (hr : Run P C ops tab seg c os k sl xs sl') (hB : ∀ k b, (tab.getD k 0).testBit b = true → b < k) (h : Seg P C ops tab seg c sl0 ox) (hck : c ≤ k)
    (hdrop : ox.drop (k - c) = os.zip xs) (hl : xs.length = os.length) (hsl : sl = mrg (fun j => decide (j < k)) sl0 ox c) :
    sl' = mrg (fun j => decide (j < k + os.length)) sl0 ox c ∧ ∀ i o x, ox[i]? = some (o, x) → k ≤ c + i → ∃ d y, o.dst = some d ∧ x = killSV d y ∧ (∀ t ∈ C.pin, o.dst ≠ some t) ∧
      still (mrg (fun j => decide (j < c + i)) sl0 ox c) o.op = true ∧ (∀ t ∈ foot ops o (mrg (fun j => decide (j < c + i)) sl0 ox c), lookOk tab (c + i) t seg c = true) ∧
      StepR P C ops o (mrg (fun j => decide (j < c + i)) sl0 ox c) y (mrg (fun j => decide (j < c + i)) sl0 ox c) := by
  induction hr with
  | nil =>
    rename_i k sl
    refine ⟨by simpa using hsl, fun i o x hi hk => ?_⟩
    have : (ox.drop (k - c))[i - (k - c)]? = some (o, x) := by
      rw [List.getElem?_drop, show k - c + (i - (k - c)) = i by omega]; exact hi
    rw [hdrop] at this
    simp at this
  | cons h1 h2 h3 h4 h5 h6 h7 ih =>
    rename_i o os k d sl sl' x xs
    have hi : ox[k - c]? = some (o, killSV d x) := by
      have : (ox.drop (k - c))[0]? = some (o, killSV d x) := by rw [hdrop]; rfl
      rwa [List.getElem?_drop, Nat.add_zero] at this
    have hk : c + (k - c) = k := by omega
    have hput : DL.put sl (some d) x = mrg (fun j => decide (j < k + 1)) sl0 ox c := by
      rw [hsl]
      rw [h.put (i := k - c) (o := o) (fun j hj b hb => by
        have := hB j b hb
        have hj' : j < k := by simpa using hj
        simp; omega) hi h4 (by simp [hk])]
      congr 1
      funext j
      unfold upd
      rw [hk]
      by_cases e : j = k
      · simp [e]
      · simp only [if_neg e]
        congr 1
        exact propext ⟨fun h => by omega, fun h => by omega⟩
    obtain ⟨g1, g2⟩ := ih (by omega) (by
      have : ox.drop (k + 1 - c) = (ox.drop (k - c)).drop 1 := by rw [List.drop_drop]; congr 1; omega
      rw [this, hdrop]; rfl) (by simpa using hl) hput
    refine ⟨by rw [g1]; congr 1; funext j; congr 1; rw [List.length_cons]; exact propext ⟨fun h => by omega, fun h => by omega⟩, fun i o' x' hi' hki => ?_⟩
    by_cases e : c + i = k
    · have : i = k - c := by omega
      subst this
      rw [hi] at hi'
      simp only [Option.some.injEq, Prod.mk.injEq] at hi'
      obtain ⟨rfl, rfl⟩ := hi'
      rw [hk, ← hsl]
      exact ⟨d, x, h4, rfl, h5, h1, h2, h3⟩
    · exact g2 i o' x' hi' (by omega)
end

end
end Go.Proofs.Ytbmflnlppnkbaaa.DL
