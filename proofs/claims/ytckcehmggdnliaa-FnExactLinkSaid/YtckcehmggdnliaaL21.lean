/- The data level, part 21: regions whose operations may run in more than one order, as the walk wants them. -/
import Derived.Test.YtckcehmggdnliaaL20a
namespace Go.Proofs.Ytckcehmggdnliaa.DL
open Go Go.RowKit

/-- What an operation of a segment is known to do in the text's own state m. -/
def StOk (P : Program) (C : Cfg) (ops : List Oper) (tab : List Nat) (wr : List (Nat × Nat × List Nat)) (seg : List Oper) (c k : Nat) (o : Oper) (u : Ups) (m : Sl) : Prop :=
  (∃ d y, wr.lookup k = none ∧ o.dst = some d ∧ u = [(d, killSV d y)] ∧ (∀ t ∈ C.pin, o.dst ≠ some t) ∧ (still m o.op && !isX C o) = true ∧ footOk ops tab wr seg c o k m = true ∧ StepR P C ops o m y m) ∨
  (∃ s tv sl1 cs x, wr.lookup k = some (s, tv) ∧ isX C o = false ∧ o.dst = none ∧ o.guard = none ∧ u = (s, gt sl1 s) :: tv.map (fun t => (t, SV.dead)) ∧ storeT C.tb m o.type o.op = some (s, tv) ∧ s ∉ tv ∧
    (∀ t ∈ foot ops o m ++ (s :: tv), lookOk tab wr k t seg c = true) ∧ (∀ y ∈ m, kB s y = true ∧ ∀ t ∈ tv, t ∉ y.roots) ∧ opV C.tb m o.type o.op = some (cs, x, sl1) ∧ (∀ p ∈ cs, p) ∧
    ownForm (gt m s) = ownForm (gt sl1 s)) ∨
  (∃ s u' d ty cs x, wr.lookup k = some (s, [s]) ∧ AppO C o s u' d ty ∧ (∀ t ∈ C.pin, o.dst ≠ some t) ∧ u = [(d, x), (s, SV.dead)] ∧ ownForm (gt m s) = true ∧ (gt m u').isOwn = false ∧ u' ≠ s ∧ d ≠ s ∧ s < m.length ∧
    (∀ t ∈ foot ops o m ++ [s], lookOk tab wr k t seg c = true) ∧ (∀ y ∈ m, s ∉ y.roots) ∧ appV C.tb m ty (.tmp s) (.tmp u') = some (cs, x, m.set s .dead) ∧ (∀ p ∈ cs, p) ∧ x.roots = [])

theorem own_kill {d : Nat} {y : SV} : ownForm (killSV d y) = ownForm y := by
  unfold killSV
  split
  · rename_i h
    unfold ownForm
    split
    · rename_i e; cases e
    · split
      · simp [SV.roots, RV.roots, CV.roots] at h
      · rfl
  · rfl

section
variable {P : Program} {C : Cfg} {tab : List Nat} {wr : List (Nat × Nat × List Nat)} {seg : List Oper} {c : Nat}

theorem Run.length {ops : List Oper} {os : List Oper} {k : Nat} {sl sl' : Sl} {us : List Ups} (hr : Run P C ops tab wr seg c os k sl us sl') : us.length = os.length := by
  induction hr with
  | nil => rfl
  | st _ _ _ _ _ _ _ _ _ ih => simp [ih]
  | wr _ _ _ _ _ _ _ _ _ _ _ _ _ ih => simp [ih]
  | ap _ _ _ _ _ _ _ _ _ _ _ _ _ _ ih => simp [ih]

/-- What a store leaves, in the text's own state. -/
theorem store_self {tb : Tb} {sl : Sl} {ty : TypeId} {op : Op} {cs : List Prop} {x : SV} {sl1 : Sl} {s : Nat} {tv : List Nat} (hT : storeT tb sl ty op = some (s, tv)) (h : opV tb sl ty op = some (cs, x, sl1)) (hstv : s ∉ tv)
    (hk : ∀ y ∈ sl, kB s y = true ∧ ∀ t ∈ tv, t ∉ y.roots) : x = .und ∧ s < sl.length ∧ sl1.length = sl.length ∧ ∀ q, q < sl.length → gt sl1 q = if q = s then gt sl1 s else if q ∈ tv then .dead else gt sl q := by
  obtain ⟨h1, h2, sl2, h3, h4, h5⟩ := store_eff (sl2 := sl) hT h hstv hk rfl (fun _ _ _ _ => ⟨rfl, fun _ _ => rfl⟩) rfl hk
  rw [h] at h3
  simp only [Option.some.injEq, Prod.mk.injEq] at h3
  obtain ⟨-, -, rfl⟩ := h3
  exact ⟨h1, h2, h4, h5⟩

theorem Run.facts {ops : List Oper} {os : List Oper} {k : Nat} {sl sl' : Sl} {us : List Ups} (hr : Run P C ops tab wr seg c os k sl us sl') :
    ∀ (i : Nat) (u : Ups) (x : SV) (t : Nat), us[i]? = some u → u.lookup t = some x → t < sl.length → (∀ r ∈ x.roots, hangOk tab wr (k + i) r seg c = true) ∧ kBs wr x = true := by
  induction hr with
  | nil => intro i u x t h; simp at h
  | st h1 h2 h3 h4 h5 h6 h7 h8 h9 ih =>
    rename_i o os k d sl sl' y us
    intro i u x t h hl ht
    cases i with
    | zero =>
      simp only [List.getElem?_cons_zero, Option.some.injEq] at h
      subst h
      simp only [List.lookup_cons, List.lookup_nil] at hl
      split at hl
      · rename_i e
        have e : t = d := by simpa using e
        subst e
        cases hl
        have e : gt (DL.put sl (some t) y) t = killSV t y := gt_putT ht
        rw [e] at h7 h8
        exact ⟨h7, h8⟩
      · cases hl
    | succ i =>
      have := ih i u x t (by simpa using h) hl (by show t < (putT sl d y).length; rw [putT_len]; exact ht)
      rwa [show k + 1 + i = k + (i + 1) by omega] at this
  | wr h1 h2 h3 h4 h5 h6 h7 h8 h9 h10 h11 h12 h13 ih =>
    rename_i o os k s tv sl sl1 sl' cs y us
    intro i u x t h hl ht
    cases i with
    | zero =>
      simp only [List.getElem?_cons_zero, Option.some.injEq] at h
      subst h
      rw [lookup_wr] at hl
      have hx : x.roots = [] := by
        split at hl
        · cases hl; exact h12
        · split at hl
          · cases hl; simp [SV.roots]
          · cases hl
      exact ⟨fun r hr => (by rw [hx] at hr; cases hr), kBs_nil hx⟩
    | succ i =>
      have hl1 := (store_self h5 h9 h6 h8).2.2.1
      have := ih i u x t (by simpa using h) hl (by rw [hl1]; exact ht)
      rwa [show k + 1 + i = k + (i + 1) by omega] at this
  | ap h1 h2 h3 h4 h5 h6 h7 h8 h9 h10 h11 h12 h13 h14 ih =>
    rename_i o os k s u0 d sl sl' ty cs y us
    intro i u x t h hl ht
    cases i with
    | zero =>
      simp only [List.getElem?_cons_zero, Option.some.injEq] at h
      subst h
      have hx : x.roots = [] := by
        simp only [List.lookup_cons, List.lookup_nil] at hl
        split at hl
        · cases hl; exact h13
        · split at hl
          · cases hl; rfl
          · cases hl
      exact ⟨fun r hr => (by rw [hx] at hr; cases hr), kBs_nil hx⟩
    | succ i =>
      have := ih i u x t (by simpa using h) hl (by show t < (putT (sl.set s .dead) d y).length; rw [putT_len, List.length_set]; exact ht)
      rwa [show k + 1 + i = k + (i + 1) by omega] at this

theorem Run.tg {ops : List Oper} {os : List Oper} {k : Nat} {sl sl' : Sl} {us : List Ups} (hr : Run P C ops tab wr seg c os k sl us sl') :
    ∀ (i : Nat) (u : Ups) (o : Oper) (t : Nat), us[i]? = some u → os[i]? = some o → (u.lookup t).isSome = true → t ∈ tgts wr (k + i) o := by
  induction hr with
  | nil => intro i u o t h; simp at h
  | st h1 h2 h3 h4 h5 h6 h7 h8 h9 ih =>
    rename_i o os k d sl sl' y us
    intro i u o' t h ho hl
    cases i with
    | zero =>
      simp only [List.getElem?_cons_zero, Option.some.injEq] at h ho
      subst h ho
      simp only [List.lookup_cons, List.lookup_nil] at hl
      split at hl
      · rename_i e
        have e : t = d := by simpa using e
        simp [tgts, h5, e]
      · cases hl
    | succ i =>
      have := ih i u o' t (by simpa using h) (by simpa using ho) hl
      rwa [show k + 1 + i = k + (i + 1) by omega] at this
  | wr h1 h2 h3 h4 h5 h6 h7 h8 h9 h10 h11 h12 h13 ih =>
    rename_i o os k s tv sl sl1 sl' cs y us
    intro i u o' t h ho hl
    cases i with
    | zero =>
      simp only [List.getElem?_cons_zero, Option.some.injEq] at h ho
      subst h ho
      rw [lookup_wr] at hl
      rw [Nat.add_zero]
      simp only [tgts, wrS, h1, h3, Option.toList_none, List.nil_append, List.mem_cons]
      split at hl
      · rename_i e; exact .inl e
      · split at hl
        · rename_i e; exact .inr e
        · cases hl
    | succ i =>
      have := ih i u o' t (by simpa using h) (by simpa using ho) hl
      rwa [show k + 1 + i = k + (i + 1) by omega] at this
  | ap h1 h2 h3 h4 h5 h6 h7 h8 h9 h10 h11 h12 h13 h14 ih =>
    rename_i o os k s u0 d sl sl' ty cs y us
    intro i u o' t h ho hl
    cases i with
    | zero =>
      simp only [List.getElem?_cons_zero, Option.some.injEq] at h ho
      subst h ho
      rw [Nat.add_zero]
      simp only [List.lookup_cons, List.lookup_nil] at hl
      simp only [tgts, wrS, h1, h2.dst, Option.toList_some, List.mem_append, List.mem_cons, List.not_mem_nil, or_false]
      split at hl
      · rename_i e; exact .inl (by simpa using e)
      · split at hl
        · rename_i e; exact .inr (.inl (by simpa using e))
        · cases hl
    | succ i =>
      have := ih i u o' t (by simpa using h) (by simpa using ho) hl
      rwa [show k + 1 + i = k + (i + 1) by omega] at this

/-- A slot that is only written through keeps its form. -/
theorem Run.form {ops : List Oper} {os : List Oper} {k : Nat} {sl sl' : Sl} {us : List Ups} (hr : Run P C ops tab wr seg c os k sl us sl') {t : Nat} (hk : t ∉ killsOf wr os k) (htl : t < sl.length) :
    ∀ (i : Nat) (u : Ups) (x : SV), us[i]? = some u → u.lookup t = some x → ownForm x = ownForm (gt sl t) := by
  induction hr with
  | nil => intro i u x h; simp at h
  | st h1 h2 h3 h4 h5 h6 h7 h8 h9 ih =>
    rename_i o os k d sl sl' y us
    intro i u x h hl
    simp only [killsOf, List.mem_append, not_or] at hk
    have htd : t ≠ d := fun e => hk.1 (by simp [kills, h5, e])
    cases i with
    | zero =>
      simp only [List.getElem?_cons_zero, Option.some.injEq] at h
      subst h
      simp only [List.lookup_cons, List.lookup_nil] at hl
      split at hl
      · rename_i e
        exact absurd (by simpa using e) htd
      · cases hl
    | succ i =>
      have e : gt (DL.put sl (some d) y) t = killSV d (gt sl t) := by
        show gt ((sl.map (killSV d)).set d (killSV d y)) t = _
        unfold gt
        rw [List.getD_eq_getElem?_getD, List.getElem?_set_ne (Ne.symm htd), List.getElem?_map, List.getD_eq_getElem?_getD, List.getElem?_eq_getElem htl]
        rfl
      have := ih hk.2 (by show t < (putT sl d y).length; rw [putT_len]; exact htl) i u x (by simpa using h) hl
      rw [this, e, own_kill]
  | wr h1 h2 h3 h4 h5 h6 h7 h8 h9 h10 h11 h12 h13 ih =>
    rename_i o os k s tv sl sl1 sl' cs y us
    intro i u x h hl
    simp only [killsOf, List.mem_append, not_or] at hk
    have httv : t ∉ tv := fun e => hk.1 (by simp [kills, wrK, h1, e])
    obtain ⟨-, -, g1, g2⟩ := store_self h5 h9 h6 h8
    cases i with
    | zero =>
      simp only [List.getElem?_cons_zero, Option.some.injEq] at h
      subst h
      rw [lookup_wr] at hl
      split at hl
      · rename_i e
        cases hl
        rw [e]; exact h11.symm
      · first | (cases hl; done) | (split at hl; rename_i e; exact absurd e httv; cases hl)
    | succ i =>
      have := ih hk.2 (by rw [g1]; exact htl) i u x (by simpa using h) hl
      rw [this, g2 t htl]
      by_cases e : t = s
      · rw [if_pos e, e]; exact h11.symm
      · rw [if_neg e, if_neg httv]
  | ap h1 h2 h3 h4 h5 h6 h7 h8 h9 h10 h11 h12 h13 h14 ih =>
    rename_i o os k s u0 d sl sl' ty cs y us
    intro i u x h hl
    simp only [killsOf, List.mem_append, not_or] at hk
    have htd : t ≠ d := fun e => hk.1 (by simp [kills, h2.dst, e])
    have hts : t ≠ s := fun e => hk.1 (by simp [kills, wrK, h1, e])
    cases i with
    | zero =>
      simp only [List.getElem?_cons_zero, Option.some.injEq] at h
      subst h
      simp only [List.lookup_cons, List.lookup_nil] at hl
      split at hl
      · rename_i e; exact absurd (by simpa using e) htd
      · split at hl
        · rename_i e; exact absurd (by simpa using e) hts
        · cases hl
    | succ i =>
      have e : gt (DL.put (sl.set s .dead) (some d) y) t = killSV d (gt sl t) := by
        show gt (((sl.set s .dead).map (killSV d)).set d (killSV d y)) t = _
        rw [gt_set_ne htd]
        unfold gt
        rw [List.getD_eq_getElem?_getD, List.getElem?_map, List.getElem?_set_ne (Ne.symm hts), List.getD_eq_getElem?_getD, List.getElem?_eq_getElem htl]
        rfl
      have := ih hk.2 (by show t < (putT (sl.set s .dead) d y).length; rw [putT_len, List.length_set]; exact htl) i u x (by simpa using h) hl
      rw [this, e, own_kill]

section
variable {ops : List Oper} {sl0 : Sl} {us : List Ups}

/-- The text's own states are merged states. -/
theorem Run.states {os : List Oper} {k : Nat} {sl sl' : Sl} {vs : List Ups} (hr : Run P C ops tab wr seg c os k sl vs sl') (hB : ∀ k b, (tab.getD k 0).testBit b = true → b < k) (h : Seg tab wr seg c sl0 us) (hck : c ≤ k)
    (hdrop : us.drop (k - c) = vs) (hseg : seg.drop (k - c) = os) (hsl : sl = mrg (fun j => decide (j < k)) sl0 us c) :
    sl' = mrg (fun j => decide (j < k + os.length)) sl0 us c ∧ ∀ i o u, us[i]? = some u → seg[i]? = some o → k ≤ c + i → StOk P C ops tab wr seg c (c + i) o u (mrg (fun j => decide (j < c + i)) sl0 us c) := by
  have more : ∀ k, c ≤ k → upd (fun j => decide (j < k)) (c + (k - c)) = fun j => decide (j < k + 1) := fun k hk => by
    funext j
    unfold upd
    by_cases e : j = k
    · rw [if_pos (by omega)]; simp [e]
    · rw [if_neg (by omega)]
      simp only [decide_eq_decide]
      omega
  have closed : ∀ k j, (decide (j < k)) = true → ∀ b, (tab.getD j 0).testBit b = true → (decide (b < k)) = true := fun k j hj b hb => by
    have := hB j b hb
    have hj' : j < k := by simpa using hj
    simp; omega
  induction hr with
  | nil =>
    rename_i k sl
    refine ⟨by simpa using hsl, fun i o u hi ho hk => ?_⟩
    have : (us.drop (k - c))[i - (k - c)]? = some u := by
      rw [List.getElem?_drop, show k - c + (i - (k - c)) = i by omega]; exact hi
    rw [hdrop] at this
    simp at this
  | st h1 h2 h3 h4 h5 h6 h7 h8 h9 ih =>
    rename_i o os k d sl sl' x vs
    have hi : us[k - c]? = some [(d, killSV d x)] := by
      have : (us.drop (k - c))[0]? = some [(d, killSV d x)] := by rw [hdrop]; rfl
      rwa [List.getElem?_drop, Nat.add_zero] at this
    have ho : seg[k - c]? = some o := by
      have : (seg.drop (k - c))[0]? = some o := by rw [hseg]; rfl
      rwa [List.getElem?_drop, Nat.add_zero] at this
    have hk : c + (k - c) = k := by omega
    have hput : DL.put sl (some d) x = mrg (fun j => decide (j < k + 1)) sl0 us c := by
      rw [hsl, h.put (i := k - c) (o := o) (closed k) hi ho h5 (by simp [hk]), more k hck]
    obtain ⟨g1, g2⟩ := ih (by omega) (by
      have : us.drop (k + 1 - c) = (us.drop (k - c)).drop 1 := by rw [List.drop_drop]; congr 1; omega
      rw [this, hdrop]; rfl) (by
      have : seg.drop (k + 1 - c) = (seg.drop (k - c)).drop 1 := by rw [List.drop_drop]; congr 1; omega
      rw [this, hseg]; rfl) hput
    refine ⟨by rw [g1]; congr 1; funext j; congr 1; rw [List.length_cons]; exact propext ⟨fun h => by omega, fun h => by omega⟩, fun i o' u' hi' ho' hki => ?_⟩
    by_cases e : c + i = k
    · have : i = k - c := by omega
      subst this
      rw [hi] at hi'
      rw [ho] at ho'
      cases hi'
      cases ho'
      rw [hk, ← hsl]
      exact .inl ⟨d, x, h1, h5, rfl, h6, h2, h3, h4⟩
    · exact g2 i o' u' hi' ho' (by omega)
  | wr h1 h2 h3 h4 h5 h6 h7 h8 h9 h10 h11 h12 h13 ih =>
    rename_i o os k s tv sl sl1 sl' cs x vs
    have hi : us[k - c]? = some ((s, gt sl1 s) :: tv.map fun t => (t, SV.dead)) := by
      have : (us.drop (k - c))[0]? = some ((s, gt sl1 s) :: tv.map fun t => (t, SV.dead)) := by rw [hdrop]; rfl
      rwa [List.getElem?_drop, Nat.add_zero] at this
    have ho : seg[k - c]? = some o := by
      have : (seg.drop (k - c))[0]? = some o := by rw [hseg]; rfl
      rwa [List.getElem?_drop, Nat.add_zero] at this
    have hk : c + (k - c) = k := by omega
    have hput : sl1 = mrg (fun j => decide (j < k + 1)) sl0 us c := by
      have := h.store (C := C) (i := k - c) (o := o) (closed k) hi ho (by rw [hk]; exact h1) (by simp [hk]) h5 h9 h6 h8 (by rw [hsl, mrg_len]) (fun _ _ _ _ => ⟨by rw [hsl], fun _ _ => by rw [hsl]⟩) (by rw [hsl])
      rw [more k hck] at this
      rw [hsl] at h9
      rw [h9] at this
      simp only [Option.some.injEq, Prod.mk.injEq] at this
      exact this.2.2
    obtain ⟨g1, g2⟩ := ih (by omega) (by
      have : us.drop (k + 1 - c) = (us.drop (k - c)).drop 1 := by rw [List.drop_drop]; congr 1; omega
      rw [this, hdrop]; rfl) (by
      have : seg.drop (k + 1 - c) = (seg.drop (k - c)).drop 1 := by rw [List.drop_drop]; congr 1; omega
      rw [this, hseg]; rfl) hput
    refine ⟨by rw [g1]; congr 1; funext j; congr 1; rw [List.length_cons]; exact propext ⟨fun h => by omega, fun h => by omega⟩, fun i o' u' hi' ho' hki => ?_⟩
    by_cases e : c + i = k
    · have : i = k - c := by omega
      subst this
      rw [hi] at hi'
      rw [ho] at ho'
      cases hi'
      cases ho'
      rw [hk, ← hsl]
      exact .inr (.inl ⟨s, tv, sl1, cs, x, h1, h2, h3, h4, rfl, h5, h6, h7, h8, h9, h10, h11⟩)
    · exact g2 i o' u' hi' ho' (by omega)
  | ap h1 h2 h3 h4 h5 h6 h7 h8 h9 h10 h11 h12 h13 h14 ih =>
    rename_i o os k s u0 d sl sl' ty cs x vs
    have hi : us[k - c]? = some [(d, x), (s, SV.dead)] := by
      have : (us.drop (k - c))[0]? = some [(d, x), (s, SV.dead)] := by rw [hdrop]; rfl
      rwa [List.getElem?_drop, Nat.add_zero] at this
    have ho : seg[k - c]? = some o := by
      have : (seg.drop (k - c))[0]? = some o := by rw [hseg]; rfl
      rwa [List.getElem?_drop, Nat.add_zero] at this
    have hk : c + (k - c) = k := by omega
    have hput : DL.put (sl.set s .dead) (some d) x = mrg (fun j => decide (j < k + 1)) sl0 us c := by
      have := h.app (i := k - c) (o := o) (closed k) hi ho (by rw [hk]; exact h1) h2.dst h7 h13 (by simp [hk]) (by rw [hsl, mrg_len] at h8; exact h8)
      rw [more k hck, ← hsl] at this
      exact this
    obtain ⟨g1, g2⟩ := ih (by omega) (by
      have : us.drop (k + 1 - c) = (us.drop (k - c)).drop 1 := by rw [List.drop_drop]; congr 1; omega
      rw [this, hdrop]; rfl) (by
      have : seg.drop (k + 1 - c) = (seg.drop (k - c)).drop 1 := by rw [List.drop_drop]; congr 1; omega
      rw [this, hseg]; rfl) hput
    refine ⟨by rw [g1]; congr 1; funext j; congr 1; rw [List.length_cons]; exact propext ⟨fun h => by omega, fun h => by omega⟩, fun i o' u' hi' ho' hki => ?_⟩
    by_cases e : c + i = k
    · have : i = k - c := by omega
      subst this
      rw [hi] at hi'
      rw [ho] at ho'
      cases hi'
      cases ho'
      rw [hk, ← hsl]
      exact .inr (.inr ⟨s, u0, d, ty, cs, x, h1, h2, h3, rfl, h4, h5, h6, h7, h8, h9, h10, h11, h12, h13⟩)
    · exact g2 i o' u' hi' ho' (by omega)

/-- An own slot is moved: its header alone is looked at. -/
theorem step_own {o : Oper} {m m2 : Sl} {y : SV} {t : Nat} (hop : o.op = .move (.tmp t)) (hx : isX C o = false) (h1 : ownForm (gt m t) = true) (h2 : ownForm (gt m2 t) = true)
    (hg : ∀ u ∈ guardSl ops o, gt m2 u = gt m u) (h : StepR P C ops o m y m) : StepR P C ops o m2 y m2 := by
  have val : ∀ (z : Sl), ownForm (gt z t) = true → opV C.tb z o.type (.move (.tmp t)) = some ([], .one (.cell (.hd t [])), z) := fun z hz => by
    unfold ownForm at hz
    split at hz
    · rename_i d e; simp only [opV, e]
    · cases hz
  have out : OutR P C m o y m → OutR P C m2 o y m2 := fun h => by
    simp only [OutR, hx, Bool.false_eq_true, if_false, OutR0, hop] at h ⊢
    obtain ⟨cs, g1, g2⟩ := h
    rw [val m h1] at g1
    simp only [Option.some.injEq, Prod.mk.injEq] at g1
    obtain ⟨rfl, rfl, -⟩ := g1
    exact ⟨[], val m2 h2, by simp⟩
  unfold StepR at h ⊢
  cases hgd : o.guard with
  | none =>
    simp only [hgd] at h ⊢
    exact out h
  | some gw =>
    obtain ⟨g, want⟩ := gw
    simp only [hgd] at h ⊢
    obtain ⟨u, hu, h⟩ := h
    have e : gt m2 u = gt m u := hg u (by simp [guardSl, hgd, hu])
    rcases h with ⟨g1, g2⟩ | ⟨g1, g2, g3⟩ | ⟨g1, g2, g3⟩
    · exact ⟨u, hu, .inl ⟨e.trans g1, out g2⟩⟩
    · exact ⟨u, hu, .inr (.inl ⟨e.trans g1, g2, by trivial⟩)⟩
    · exact ⟨u, hu, .inr (.inr ⟨e.trans g1, g2, by trivial⟩)⟩
end

variable {w0 : World} {F0 : List Nat} {ts0 : Array Value} {ops : Array Oper} {Q : Exit → Act → World → Prop}

theorem mrg_none {L : Nat → Bool} {sl0 : Sl} {us : List Ups} (h : ∀ i, i < us.length → L (c + i) = false) : mrg L sl0 us c = sl0 := by
  refine List.ext_getElem mrg_len fun t h1 h2 => ?_
  simp only [mrg, List.getElem_map, List.getElem_range]
  rw [mrgT_none us c _ fun i u hi _ => h i (List.getElem?_eq_some_iff.1 hi).1]
  simp [gt, h2]

theorem drawnK_any (hT : TbOk P C.tb) (hM : Masks ops tab) {K' : Sl → Prop} (hK : ∀ sl', K' sl' → ∀ a' w', St C w0 F0 ts0 sl' a' w' → Q .normal a' w') : ∀ (ns : List Nat) (c : Nat) (sl : Sl),
    drawnK P C ops.toList tab wr ns c sl K' → ∀ fuel listed a w, listed.size = ops.size → (∀ j < ops.size, at' listed j = decide (j < c)) → cnt ops listed ≤ fuel → St C w0 F0 ts0 sl a w →
      wpAny P .any ops Q fuel listed a w
  | [], c, sl, h, fuel, listed, a, w, hs, hl, hcnt, hst => by
    simp only [drawnK] at h
    split at h
    · rename_i e
      have e : c = ops.size := by simpa using e
      refine wpAny_done ?_ (hK sl h a w hst) fuel
      cases hr : Region.ready .any ops listed with
      | nil => rfl
      | cons i r =>
        have hi : i ∈ Region.ready .any ops listed := by rw [hr]; exact List.mem_cons_self ..
        obtain ⟨h0, o, ho, -⟩ := mem_ready.1 hi
        have hil : i < ops.size := (Array.getElem?_eq_some_iff.1 ho).1
        have := hl i hil
        simp only [at', Array.getD_eq_getD_getElem?, hs, hil, Array.getElem?_eq_getElem, Option.getD_some] at this h0
        rw [this] at h0
        simp [e, hil] at h0
    · exact h.elim
  | n :: ns, c, sl, h, fuel, listed, a, w, hs, hl, hcnt, hst => by
    simp only [drawnK] at h
    split at h
    · rename_i hc
      simp only [Bool.and_eq_true] at hc
      obtain ⟨⟨hn0, hn⟩, hcut⟩ := hc
      have hn0 : 0 < n := Nat.le_of_ble_eq_true hn0
      have hn : c + n ≤ ops.size := by simpa using Nat.le_of_ble_eq_true hn
      have out : ∀ j, ops.size ≤ j → at' listed j = false := fun j hj => by simp [at', hs, hj]
      have pre : ∀ j < c, at' listed j = true := fun j hj => by rw [hl j (by omega)]; simp [hj]
      have post : ∀ j, c ≤ j → at' listed j = false := fun j hj => by
        rcases Nat.lt_or_ge j ops.size with h' | h'
        · rw [hl j h']; simp; omega
        · exact out j h'
      have closed : ∀ j, at' listed j = true → ∀ b, (tab.getD j 0).testBit b = true → at' listed b = true := fun j hj b hb => by
        have h1 := hM.back j b hb
        have h2 : j < c := by
          rcases Nat.lt_or_ge j c with h' | h'
          · exact h'
          · rw [post j h'] at hj; cases hj
        exact pre b (by omega)
      split at h
      · rename_i e1
        have e1 : n = 1 := by simpa using e1
        subst e1
        split at h
        · rename_i o ho
          have ho : ops[c]? = some o := by simpa using ho
          refine seg_abs hM hn hcut (fun L a w => if L c = true then ∃ sl', drawnK P C ops.toList tab wr ns (c + 1) sl' K' ∧ St C w0 F0 ts0 sl' a w else St C w0 F0 ts0 sl a w)
            (fun L L' a w hLL hS => ?_) (fun k o' L a w K h1 h2 ho' hLk _ _ hS hK' => ?_) (fun fuel listed a w hs hl hcnt hS => ?_) fuel listed a w hs pre (fun j hj => post j (by omega)) closed hcnt ?_
          · have := hLL c (Nat.le_refl _) (by omega)
            rw [← this]; exact hS
          · have e : k = c := by omega
            subst e
            rw [ho] at ho'
            cases ho'
            simp only [hLk, Bool.false_eq_true, if_false] at hS
            refine stepK_wp hT ho h hS fun sl' hsl' a' w' hst' => hK' a' w' ?_
            have : upd L k k = true := by simp [upd]
            simp only [this, if_true]
            exact ⟨sl', hsl', hst'⟩
          · have : (decide (c < c + 1)) = true := by simp
            simp only [this, if_true] at hS
            obtain ⟨sl', h1, h2⟩ := hS
            exact drawnK_any hT hM hK ns (c + 1) sl' h1 fuel listed a w hs hl hcnt h2
          · simp only [post c (Nat.le_refl _), Bool.false_eq_true, if_false]
            exact hst
        · exact h.elim
      · by_cases hp : pureSeg tab ((ops.toList.drop c).take n) c = true
        · rw [if_pos hp] at h
          generalize hseg : (ops.toList.drop c).take n = seg at *
          have hlen : seg.length = n := by rw [← hseg]; simp; omega
          have segAt : ∀ i, i < n → seg[i]? = ops[c + i]? := fun i hi => by
            rw [← hseg]
            simp [hi]
          simp only [pureSeg, Bool.and_eq_true] at hp
          obtain ⟨hp1, hp2, hp3⟩ := hp
          obtain ⟨us, ts', sl', hrun, hnext, hst'⟩ := pure_run hT seg c sl a w (fun j hj => (segAt j (by omega)).symm) hp1 h hst
          have hul := hrun.length
          have hord : ∀ (i : Nat) (o : Oper) (j : Nat) (o' : Oper) (q : Nat), seg[i]? = some o → seg[j]? = some o' → o.dst = some q → o'.dst = some q → j < i → (tab.getD (c + i) 0).testBit (c + j) = true :=
            fun i o j o' q hi hj hq hq' hlt => ordAll_spec (t := q) seg c i o j o' hp2 hi hj (by simp [tgts, wrS, hq]) (by simp [tgts, wrS, hq']) (by omega)
          refine seg_abs hM hn hcut (fun L a' w' => w' = w ∧ a'.defers = a.defers ∧ a'.tmps.size = a.tmps.size ∧ ∀ q, valAt a'.tmps q = mrgV L a.tmps us c q)
            (fun L L' a' w' hLL hS => ⟨hS.1, hS.2.1, hS.2.2.1, fun q => ?_⟩) (fun k o L a' w' K h1 h2 ho hLk hcl hbits hS hK' => ?_) (fun fuel listed a' w' hs hl hcnt hS => ?_) fuel listed a w hs pre (fun j hj => post j (by omega)) closed hcnt ⟨rfl, rfl, rfl, fun q => ?_⟩
          · rw [hS.2.2.2 q]
            unfold mrgV
            split
            · refine mrgT_congr _ _ _ fun i u hi _ => hLL _ (by omega) ?_
              have := (List.getElem?_eq_some_iff.1 hi).1
              omega
            · rfl
          · obtain ⟨i, rfl⟩ : ∃ i, k = c + i := ⟨k - c, by omega⟩
            have g1 : seg[i]? = some o := by rw [segAt i (by omega)]; exact ho
            obtain ⟨rfl, e1, e2, e3⟩ := hS
            obtain ⟨d, v, t, k1, k2, k3, k4, k5⟩ := hrun.at c i o g1
            have look : mrgV L a.tmps us c t = mrgV (fun j => decide (j < c + i)) a.tmps us c t := by
              unfold mrgV
              split
              · refine mrgT_congr _ _ _ fun i' u' hi' hs' => ?_
                have hil := (List.getElem?_eq_some_iff.1 hi').1
                rw [hul] at hil
                obtain ⟨d', v', t', m1, -, -, m4, -⟩ := hrun.at c i' _ (List.getElem?_eq_getElem hil)
                rw [hi'] at m4
                have m4 : u' = [(d', v')] := by simpa using m4
                subst m4
                have : t = d' := by
                  simp only [List.lookup_cons, List.lookup_nil] at hs'
                  split at hs'
                  · rename_i e; simpa using e
                  · cases hs'
                subst this
                rcases lookOk_spec seg c i' _ (pureLook_spec seg c i o t hp3 g1 k3) (List.getElem?_eq_getElem hil) (by simp [tgts, wrS, m1]) with e | ⟨e1, e2⟩ | ⟨e1, e2⟩
                · rw [e, hLk]; simp
                · rw [hbits _ e2]; simp [e1]
                · cases hL' : L (c + i') with
                  | false => simp; omega
                  | true => have := hcl _ hL' _ e2; rw [hLk] at this; cases this
              · rfl
            refine pure_fwd ho k2 k3 (v := v) (by rw [e3, look]; exact k5) ?_
            rw [k1]
            exact hK' _ _ ⟨rfl, e1, (Array.size_setIfInBounds ..).trans e2, hrun.next hord hcl k4 g1 k1 hLk e2 e3⟩
          · obtain ⟨rfl, e1, e2, e3⟩ := hS
            obtain ⟨f1, f2⟩ := hrun.fin
            have et : a'.tmps = ts' := by
              refine Array.ext (e2.trans f1.symm) fun q hq hq' => ?_
              have : valAt a'.tmps q = valAt ts' q := by rw [e3 q, f2 c q, hlen]
              simpa [valAt, Array.getD_eq_getD_getElem?, hq, hq'] using this
            have : a' = ⟨ts', a.defers⟩ := by cases a'; simp_all
            subst this
            exact drawnK_any hT hM hK ns (c + n) sl' hnext fuel listed _ _ hs hl hcnt hst'
          · exact (mrgV_none fun i _ => post _ (by omega)).symm
        rw [if_neg hp] at h
        split at h
        · rename_i hck
          simp only [Bool.and_eq_true] at hck
          obtain ⟨⟨hord, hroot⟩, hkb⟩ := hck
          obtain ⟨us, sl', hrun, hnext⟩ := segK_run _ _ _ h
          generalize hseg : (ops.toList.drop c).take n = seg at *
          have hlen : seg.length = n := by rw [← hseg]; simp; omega
          have hul := hrun.length
          have hS : Seg tab wr seg c sl us := by
            refine ⟨hul, fun i u o t hi ho hs => hrun.tg i u o t hi ho hs, fun i o j o' t hi hj ht ht' hlt => ordAll_spec seg c i o j o' hord hi hj ht ht' (by omega), fun i o hi t ht x hx => ?_,
              fun i u x t hi hu ht => (hrun.facts i u x t hi hu ht).1, fun x hx => List.all_eq_true.1 hkb x hx, fun i u x t hi hu ht => (hrun.facts i u x t hi hu ht).2⟩
            have := List.all_eq_true.1 hroot t (killsOf_spec seg c i o hi ht)
            exact rooted_spec sl (by simpa using this) x hx
          have start : mrg (fun j => decide (j < c)) sl us c = sl := mrg_none fun i _ => by simp
          obtain ⟨hend, hall⟩ := hrun.states hM.back hS (Nat.le_refl c) (by simp) (by simp) start.symm
          have segAt : ∀ i, i < n → seg[i]? = ops[c + i]? := fun i hi => by
            rw [← hseg]
            simp [hi]
          refine seg_abs hM hn hcut (fun L a w => St C w0 F0 ts0 (mrg L sl us c) a w)
            (fun L L' a w hLL hS' => ?_) (fun k o L a w K h1 h2 ho hLk hcl hbits hS' hK' => ?_) (fun fuel listed a w hs hl hcnt hS' => ?_) fuel listed a w hs pre (fun j hj => post j (by omega)) closed hcnt ?_
          · have : mrg L sl us c = mrg L' sl us c := by
              unfold mrg
              refine List.map_congr_left fun t _ => mrgT_congr _ _ _ fun i u hi _ => hLL _ (by omega) ?_
              have := (List.getElem?_eq_some_iff.1 hi).1
              omega
            rw [← this]; exact hS'
          · obtain ⟨i, rfl⟩ : ∃ i, k = c + i := ⟨k - c, by omega⟩
            have hi : i < n := by omega
            have g1 : seg[i]? = some o := by rw [segAt i hi]; exact ho
            obtain ⟨u, hu⟩ : ∃ u, us[i]? = some u := ⟨_, List.getElem?_eq_getElem (by omega)⟩
            have look : ∀ t, lookOk tab wr (c + i) t seg c = true → gt (mrg L sl us c) t = gt (mrg (fun j => decide (j < c + i)) sl us c) t := fun t ht => by
              rw [gt_mrg, gt_mrg]
              split
              · refine mrgT_congr _ _ _ fun i' u' hi' hs' => ?_
                obtain ⟨o', ho'⟩ := hS.at hi'
                rcases lookOk_spec seg c i' o' ht ho' (hS.tg i' u' o' t hi' ho' hs') with e | ⟨e1, e2⟩ | ⟨e1, e2⟩
                · rw [e, hLk]; simp
                · rw [hbits _ e2]; simp [e1]
                · cases hL' : L (c + i') with
                  | false => simp; omega
                  | true => have := hcl _ hL' _ e2; rw [hLk] at this; cases this
              · rfl
            rcases hall i o u hu g1 (by omega) with ⟨d, y, k1, k2, rfl, k4, k5, k6, k7⟩ | ⟨s, tv, sl1, cs, x, k1, k2, k3, k4, rfl, k6, k7, k8, k9, k10, k11, k12⟩ | ⟨s, u0, d, ty, cs, x, k1, k2, k3, rfl, k5, k6, k7, k8, k9, k10, k11, k12, k13, k14⟩
            · have hstep : StepR P C ops.toList o (mrg L sl us c) y (mrg L sl us c) := by
                have all : (foot ops.toList o (mrg (fun j => decide (j < c + i)) sl us c)).all (fun t => lookOk tab wr (c + i) t seg c) = true → StepR P C ops.toList o (mrg L sl us c) y (mrg L sl us c) :=
                  fun hf => (step_loc k5 k7 fun t ht => look t (List.all_eq_true.1 hf t ht)).2
                unfold footOk at k6
                split at k6
                · rename_i t hop
                  split at k6
                  · rename_i hc
                    simp only [Bool.and_eq_true, Bool.not_eq_true'] at hc k5
                    have hnk : t ∉ killsOf wr seg c := by simpa using hc.2
                    refine step_own hop (by simpa using k5.2) hc.1 ?_ (fun u hu => look u (List.all_eq_true.1 k6 u hu)) k7
                    have hin : ∀ L', ownForm (gt (mrg L' sl us c) t) = (decide (t < sl.length) && ownForm (gt sl t)) := fun L' => by
                      rw [gt_mrg]
                      split
                      · rename_i htl
                        simp only [htl, decide_true, Bool.true_and]
                        rcases mrgT_cases (L := L') (t := t) us c (gt sl t) with e | ⟨j, u', x', e1, e2, e3, e4⟩
                        · rw [e]
                        · rw [e4]; exact hrun.form hnk htl j u' x' e1 e2
                      · rename_i htl; simp [htl, ownForm]
                    rw [hin L, ← hin (fun j => decide (j < c + i))]
                    exact hc.1
                  · exact all k6
                · exact all k6
              refine step_wp hT ho hstep k4 hS' fun a' w' hst' => hK' a' w' ?_
              rw [k2] at hst'
              rwa [hS.put hcl hu g1 k2 hLk] at hst'
            · have hm : ∀ t ∈ foot ops.toList o (mrg (fun j => decide (j < c + i)) sl us c), gt (mrg L sl us c) t = gt (mrg (fun j => decide (j < c + i)) sl us c) t := fun t ht => look t (k8 t (List.mem_append_left _ ht))
              have hop := hS.store (C := C) hcl hu g1 k1 hLk k6 k10 k7 k9 mrg_len (fun x hx t ht => by
                have ht' : t ∈ tmpsOf o := List.mem_filterMap.2 ⟨x, by simpa using hx, by rw [ht]⟩
                exact ⟨hm t (by simp [foot, ht']), fun r hr => hm r (List.mem_append_right _ (List.mem_append_right _ (List.mem_flatMap.2 ⟨t, ht', hr⟩)))⟩) (look s (k8 s (by simp)))
              obtain ⟨t, a0, x0, hst⟩ := storeT_op k6
              have hstep : StepR P C ops.toList o (mrg L sl us c) .und (mrg (upd L (c + i)) sl us c) := by
                simp only [StepR, k4, OutR, k2, Bool.false_eq_true, if_false, OutR0, hst]
                rw [hst] at hop
                exact ⟨cs, hop, k11⟩
              refine step_wp hT ho hstep (fun t _ => by rw [k3]; simp) hS' fun a' w' hst' => hK' a' w' ?_
              rw [k3] at hst'
              exact hst'
            · have hm : ∀ t ∈ foot ops.toList o (mrg (fun j => decide (j < c + i)) sl us c), gt (mrg L sl us c) t = gt (mrg (fun j => decide (j < c + i)) sl us c) t := fun t ht => look t (k10 t (List.mem_append_left _ ht))
              obtain ⟨c0, e1, e2, e3, e4⟩ := k2.op
              have hu0 : Operand.tmp u0 ∈ o.op.operands := by
                have : Operand.tmp u0 ∈ c0.args := by rw [← Array.mem_toList_iff, e3]; simp
                rw [e1]
                simp only [Op.operands, Call.operands, e2]
                simp [this]
              have ht' : u0 ∈ tmpsOf o := List.mem_filterMap.2 ⟨_, by simpa using hu0, rfl⟩
              have hclean := hS.clean hcl g1 hLk
              have hsk : s ∈ kills wr (c + i) o := by simp [kills, wrK, k1]
              obtain ⟨-, -, hap⟩ := app_loc (sl2 := mrg L sl us c) k12 k5 k6 k7 k11 (fun y hy => (hclean y hy).2 s hsk) (look s (k10 s (by simp))) fun t ht => by
                cases ht
                exact ⟨hm u0 (by simp [foot, ht']), fun r hr => hm r (List.mem_append_right _ (List.mem_append_right _ (List.mem_flatMap.2 ⟨u0, ht', hr⟩)))⟩
              have hstep : StepR P C ops.toList o (mrg L sl us c) x ((mrg L sl us c).set s .dead) := by
                simp only [StepR, k2.guard, OutR, k2.x, if_true, OutX, e1, e2]
                exact ⟨ty, .tmp s, .tmp u0, cs, e4, e3, hap, k13⟩
              refine step_wp hT ho hstep k3 hS' fun a' w' hst' => hK' a' w' ?_
              rw [k2.dst] at hst'
              rwa [hS.app hcl hu g1 k1 k2.dst k8 k14 hLk (by rw [mrg_len] at k9; exact k9)] at hst'
          · have e : mrg (fun j => decide (j < c + n)) sl us c = sl' := by rw [hend, hlen]
            rw [e] at hS'
            exact drawnK_any hT hM hK ns (c + n) sl' hnext fuel listed a w hs hl hcnt hS'
          · rw [mrg_none fun i _ => post _ (by omega)]
            exact hst
        · exact h.elim
    · exact h.elim

theorem drawn_wp (hT : TbOk P C.tb) (hm : P.follows .mixedOrders = true) {id : Nat} {K' : Sl → Prop} {sl : Sl} {a : Act} {w : World} (hk : drawnR P C id ops.toList (maskTab ops.toList []) sl K')
    (h : St C w0 F0 ts0 sl a w) (hK : ∀ sl', K' sl' → ∀ a' w', St C w0 F0 ts0 sl' a' w' → Q .normal a' w') : (Code.region id ops true).wp P Q a w := by
  unfold drawnR at hk
  split at hk
  · rename_i hb
    refine wp_region_any hm (drawnK_any hT (masks hb) hK _ 0 sl hk ops.size _ a _ (by simp) (fun j hj => by simp [at', hj]) ?_ ?_)
    · unfold cnt
      exact Nat.le_trans (List.length_filter_le ..) (by simp)
    · obtain ⟨φ, fx, fv, h1, h2, h3⟩ := h
      exact ⟨φ, fx, fv, h1.extend ⟨rfl, rfl, rfl, Nat.le_refl _, fun _ _ _ => rfl⟩, h2, h3⟩
  · exact hk.elim
end
end Go.Proofs.Ytckcehmggdnliaa.DL
