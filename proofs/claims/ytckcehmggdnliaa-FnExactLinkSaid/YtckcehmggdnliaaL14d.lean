/- The data level, part 14d: what is lent to be written. -/
import Derived.Test.YtckcehmggdnliaaL14c
namespace Go.Proofs.Ytckcehmggdnliaa.DL
open Go Go.RowKit

section
variable {P : Program} {C : Cfg} {tb : Tb} {φ : Option Nat → List Nat} {w0 w w' : World} {F0 : List Nat} {sl : Sl} {fx : SV} {ts : Array Value} {fv : Value} {ds : List Deferred}

theorem setP_nil (d x : DV) : d.setP x [] = x := by cases d <;> rfl

/-- What lies at the end of a way, and all else; when the one has been written, and the other not. -/
theorem Rd.focus {F : List Nat} : ∀ (p : List Nat) {v : Value} {d : DV} {bs : List Nat}, Rd true w [v] [d] bs → (∀ b ∈ bs, b ∈ F) → d.InP p →
    ∃ u χ rest, hdr w F v p = some u ∧ Rd true w [u] [d.getP p] χ ∧ bs.Perm (χ ++ rest) ∧
      ∀ (w' : World) (χ' : List Nat) (d' : DV), w.heap.size ≤ w'.heap.size → (∀ b ∈ rest, w'.heap[b]? = w.heap[b]?) → Rd true w' [u] [d'] χ' → ∃ bs', Rd true w' [v] [d.setP d' p] bs' ∧ bs'.Perm (χ' ++ rest)
  | [], v, d, bs, h, _, _ => ⟨v, bs, [], rfl, h, by simp, fun w' χ' d' _ _ h' => ⟨χ', by rw [setP_nil]; exact h', by simp⟩⟩
  | j :: p, v, d, bs, h, hF, hp => by
    obtain ⟨hj, hp⟩ := hp
    cases d with
    | val u => simp [DV.es] at hj
    | sl sz es =>
      simp only [DV.es] at hj hp
      rcases h.one with ⟨a, cap, rfl, rfl, _⟩ | ⟨b, off, n, cap, us, bs1, rfl, rfl, h1, h2, h3, h4, h5, h6, h7⟩
      · simp at hj
      · have hju : j < us.length := by rw [h7.length]; exact hj
        obtain ⟨d', hd', b1, b2, b3, g1, hr, g3, rfl⟩ := h7.get (j := j) (v := us[j]) (List.getElem?_eq_getElem hju)
        have hd : es.getD j dfl = d' := by simp [List.getD, hd']
        rw [hd] at hp
        obtain ⟨u, χ, rest, k1, k2, k3, k4⟩ := Rd.focus p hr (fun b hb => hF b (by simp [hb])) hp
        refine ⟨u, χ, b :: (b1 ++ (rest ++ b3)), ?_, ?_, ?_, fun w' χ' d2 hs hrest h' => ?_⟩
        · simp only [hdr, locOf]
          rw [if_pos (hF b (by simp)), h1 j us[j] (List.getElem?_eq_getElem hju)]
          exact k1
        · simp only [DV.getP, DV.es]
          rw [hd]
          exact k2
        · have p1 : (b1 ++ (b2 ++ b3)).Perm (χ ++ (b1 ++ (rest ++ b3))) := by
            have q1 : (b1 ++ (b2 ++ b3)).Perm (b1 ++ (χ ++ (rest ++ b3))) := by
              refine List.Perm.append_left b1 ?_
              rw [← List.append_assoc]
              exact List.Perm.append_right b3 k3
            exact q1.trans (List.perm_append_comm_assoc b1 χ _)
          exact (List.Perm.cons b p1).trans (List.perm_middle (a := b) (l₁ := χ)).symm
        · obtain ⟨bs', m1, m2⟩ := k4 w' χ' d2 hs (fun x hx => hrest x (by simp [hx])) h'
          have hb : w'.heap[b]? = w.heap[b]? := hrest b (by simp)
          have f1 := g1.frame (w' := w') hs fun x hx => hrest x (by simp [hx])
          have f3 := g3.frame (w' := w') hs fun x hx => hrest x (by simp [hx])
          have hus : us.take j ++ ([us[j]] ++ us.drop (j + 1)) = us := by
            rw [List.singleton_append, ← List.drop_eq_getElem_cons hju, List.take_append_drop]
          have hes : es.take j ++ ([d'.setP d2 p] ++ es.drop (j + 1)) = es.set j (d'.setP d2 p) := by
            rw [List.singleton_append, List.set_eq_take_append_cons_drop, if_pos hj]
          have all := f1.append (m1.append f3)
          rw [hus, hes] at all
          refine ⟨b :: (b1 ++ (bs' ++ b3)), ?_, ?_⟩
          · simp only [DV.setP, hd]
            refine Rd.mk rfl (rangeAt_block hb h1) ?_ (Nat.lt_of_lt_of_le h3 hs) (by simpa using h4) ⟨h5, h6⟩ all
            obtain ⟨c, el, hc, hm⟩ := h2 rfl
            exact ⟨c, el, hb.trans hc, hm⟩
          · have p1 : (b1 ++ (bs' ++ b3)).Perm (χ' ++ (b1 ++ (rest ++ b3))) := by
              have q1 : (b1 ++ (bs' ++ b3)).Perm (b1 ++ (χ' ++ (rest ++ b3))) := by
                refine List.Perm.append_left b1 ?_
                rw [← List.append_assoc]
                exact List.Perm.append_right b3 m2
              exact q1.trans (List.perm_append_comm_assoc b1 χ' _)
            exact (List.Perm.cons b p1).trans (List.perm_middle (a := b) (l₁ := χ')).symm

def landed2 (φ : Option Nat → List Nat) (s : Nat) (ψ' ψy : List Nat) : Option Nat → List Nat := fun t => if t = some s then ψ' else if t = none then ψy else φ t

/-- Slot s is written through, and something new is in flight. -/
theorem RelW.write2 (h : RelW φ w0 F0 sl fx ts fv w) (s : Nat) (hs : s < sl.length) {x' y : SV} {v : Value} {ψ' ψy : List Nat} {keep : SV → SV} (hx : Ext (φ (some s)) w w') (hnd : ψ'.Nodup) (hndy : ψy.Nodup) (hdis : ∀ b ∈ ψ', b ∉ ψy)
    (hψ : ∀ b ∈ ψ', b < w'.heap.size ∧ (b ∈ φ (some s) ∨ w.heap.size ≤ b)) (hψy : ∀ b ∈ ψy, b < w'.heap.size ∧ (b ∈ φ (some s) ∨ w.heap.size ≤ b))
    (hrel : SlotRel w' (landed2 φ s ψ' ψy) (valAt ts) (valAt ts s) ψ' x') (hrely : SlotRel w' (landed2 φ s ψ' ψy) (valAt ts) v ψy y) (hk0 : ∀ y, s ∉ y.roots → keep y = y)
    (hk1 : ∀ t y, t ≠ s → sl[t]? = some y → s ∈ y.roots → SlotRel w' (landed2 φ s ψ' ψy) (valAt ts) (valAt ts t) (φ (some t)) (keep y)) :
    RelW (landed2 φ s ψ' ψy) w0 F0 ((sl.map keep).set s x') y ts v w' := by
  have e_s : landed2 φ s ψ' ψy (some s) = ψ' := by simp [landed2]
  have e_n : landed2 φ s ψ' ψy none = ψy := by simp [landed2]
  have e_t : ∀ t, t ≠ some s → t ≠ none → landed2 φ s ψ' ψy t = φ t := fun t h1 h2 => by simp [landed2, h1, h2]
  have hget : ∀ t, t ≠ s → ((sl.map keep).set s x')[t]? = (sl[t]?).map keep := fun t ht => by rw [List.getElem?_set_ne (Ne.symm ht), List.getElem?_map]
  have kept : ∀ t y, t ≠ s → sl[t]? = some y → s ∉ y.roots → SlotRel w' (landed2 φ s ψ' ψy) (valAt ts) (valAt ts t) (φ (some t)) y := fun t y hts hy hr => by
    refine (h.slot (some t) y hy).kept ⟨hx.size, fun b hb => hx.block b (h.lt _ b hb).1 (h.dj (some t) (some s) (by simpa using hts) b hb), fun r hr' => ?_, fun b hb hf => ⟨hx.block b hb (hf (some s)), fun t ht => ?_⟩⟩
    · have hne : r ≠ s := fun e => hr (e ▸ hr')
      exact ⟨rfl, by simp [landed2, hne], fun b hb => hx.block b (h.lt _ b hb).1 (h.dj (some r) (some s) (by simpa using hne) b hb)⟩
    · unfold landed2 at ht
      split at ht
      · rcases (hψ b ht).2 with g | g
        · exact hf _ g
        · omega
      · split at ht
        · rcases (hψy b ht).2 with g | g
          · exact hf _ g
          · omega
        · exact hf t ht
  refine ⟨by simp [h.len], fun t z hz => ?_, fun t => ?_, fun t t' hne b hb hb' => ?_, fun t b hb => ?_, ?_⟩
  · cases t with
    | none => cases hz; simpa only [vget, e_n] using hrely
    | some t =>
      simp only [sget] at hz
      by_cases e : t = s
      · subst e
        rw [List.getElem?_set_self (by simpa using hs)] at hz
        cases hz
        simpa only [vget, e_s] using hrel
      · rw [hget t e] at hz
        cases hy : sl[t]? with
        | none => simp [hy] at hz
        | some y0 =>
          simp only [hy, Option.map_some, Option.some.injEq] at hz
          subst hz
          simp only [vget]
          rw [e_t (some t) (by simpa using e) (by simp)]
          by_cases hr : s ∈ y0.roots
          · exact hk1 t y0 e hy hr
          · rw [hk0 y0 hr]; exact kept t y0 e hy hr
  · by_cases e1 : t = some s
    · rw [e1, e_s]; exact hnd
    · by_cases e2 : t = none
      · rw [e2, e_n]; exact hndy
      · rw [e_t t e1 e2]; exact h.nd t
  · have aux : ∀ (ψ : List Nat), (∀ b ∈ ψ, b < w'.heap.size ∧ (b ∈ φ (some s) ∨ w.heap.size ≤ b)) → ∀ t, t ≠ some s → t ≠ none → ∀ b ∈ ψ, b ∉ φ t := fun ψ hψ t h1 h2 b hb hb' => by
      rcases (hψ b hb).2 with g | g
      · exact h.dj (some s) t (Ne.symm h1) b g hb'
      · have := (h.lt t b hb').1; omega
    by_cases e1 : t = some s
    · subst e1
      rw [e_s] at hb
      by_cases e2 : t' = none
      · rw [e2, e_n] at hb'; exact hdis b hb hb'
      · rw [e_t t' (Ne.symm hne) e2] at hb'; exact aux ψ' hψ t' (Ne.symm hne) e2 b hb hb'
    · by_cases e1' : t' = some s
      · subst e1'
        rw [e_s] at hb'
        by_cases e2 : t = none
        · rw [e2, e_n] at hb; exact hdis b hb' hb
        · rw [e_t t e1 e2] at hb; exact aux ψ' hψ t e1 e2 b hb' hb
      · by_cases e2 : t = none
        · subst e2
          rw [e_n] at hb
          rw [e_t t' e1' (Ne.symm hne)] at hb'
          exact aux ψy hψy t' e1' (Ne.symm hne) b hb hb'
        · by_cases e2' : t' = none
          · subst e2'
            rw [e_n] at hb'
            rw [e_t t e1 hne] at hb
            exact aux ψy hψy t e1 hne b hb' hb
          · rw [e_t t e1 e2] at hb
            rw [e_t t' e1' e2'] at hb'
            exact h.dj t t' hne b hb hb'
  · have fin : (b < w'.heap.size ∧ (b ∈ φ (some s) ∨ w.heap.size ≤ b)) → b < w'.heap.size ∧ (w0.heap.size ≤ b ∨ b ∈ F0) := fun ⟨g1, g2⟩ => ⟨g1, by
      rcases g2 with g | g
      · exact (h.lt _ b g).2
      · exact .inl (Nat.le_trans h.ext.size g)⟩
    by_cases e1 : t = some s
    · rw [e1, e_s] at hb; exact fin (hψ b hb)
    · by_cases e2 : t = none
      · rw [e2, e_n] at hb; exact fin (hψy b hb)
      · rw [e_t t e1 e2] at hb
        exact ⟨Nat.lt_of_lt_of_le (h.lt t b hb).1 hx.size, (h.lt t b hb).2⟩
  · refine ⟨hx.os.trans h.ext.os, hx.tape.trans h.ext.tape, hx.output.trans h.ext.output, Nat.le_trans h.ext.size hx.size, fun k hk hn => ?_⟩
    refine (hx.block k (Nat.lt_of_lt_of_le hk h.ext.size) fun hm => ?_).trans (h.ext.block k hk hn)
    rcases (h.lt (some s) k hm).2 with g | g
    · omega
    · exact hn g

theorem CVRel.fitAny {f g : Nat → Value} {φ2 : Option Nat → List Nat} {v : Value} {χ : List Nat} {c : CV} (h : CVRel w φ f v χ c) (hf : c.fit = true) : CVRel w φ2 g v χ c := by
  cases c with
  | sc u => exact h
  | own d => exact h
  | _ => simp [CV.fit] at hf
theorem CVs.fitAny {f g : Nat → Value} {φ2 : Option Nat → List Nat} {vs : List Value} {χ : List Nat} {cs : List CV} (h : CVs w φ f vs cs χ) (hf : cs.all CV.fit = true) : CVs w φ2 g vs cs χ := by
  induction h with
  | nil => exact .nil
  | cons h _ ih =>
    simp only [List.all_cons, Bool.and_eq_true] at hf
    exact .cons (h.fitAny hf.1) (ih hf.2)
theorem box_fitAny {f g : Nat → Value} {φ2 : Option Nat → List Nat} {v : Value} {χ : List Nat} {cs : List CV} (h : SlotRel w φ f v χ (.box cs)) (hf : cs.all CV.fit = true) : SlotRel w φ2 g v χ (.box cs) := by
  obtain ⟨h1, b, c, el, ψs, h2, h3, h4, h5⟩ := h
  exact ⟨h1, b, c, el, ψs, h2, h3, h4.fitAny hf, h5⟩

/-- A struct's headers and the box's cells that they lie in: what is lent, and what comes back. -/
theorem agg_focus {f : Nat → Value} {s : Nat} : ∀ (xs : List CV) (j : Nat) {us : List Value} {ψ0 : List Nat} {vbs : List Value} {bs ys : List CV} {ψs : List Nat}, CVs w φ f us xs ψ0 → CVs w φ f vbs bs ψs → ioAgg s j xs bs = some ys →
    (∀ (k : Nat) (d : DV) (u : Value), xs[k]? = some (.ref s [j + k] d) → us[k]? = some u → vbs[k]? = some u) → (∀ c ∈ bs, c.roots = []) →
    ∃ χ rest, ψs.Perm (χ ++ rest) ∧ (∀ (φ2 : Option Nat → List Nat) (g : Nat → Value), CVs w φ2 g us ys χ) ∧ (∀ c ∈ ys, c.roots = []) ∧
      ∀ (w' : World) (χ' : List Nat) (ws : List CV) (φ1 : Option Nat → List Nat) (g1 : Nat → Value), w.heap.size ≤ w'.heap.size → (∀ b ∈ rest, w'.heap[b]? = w.heap[b]?) → ws.length = (ys.filter CV.isOwn).length → ws.all CV.fit = true →
        CVs w' φ1 g1 us (fillOwn ys ws) χ' → (∀ b, b < w.heap.size → (∀ t, b ∉ φ t) → w'.heap[b]? = w.heap[b]?) → (∀ c ∈ fillBox bs ys ws, c.roots = []) ∧ ∃ ψ', ψ'.Perm (χ' ++ rest) ∧
          ∀ φ2 : Option Nat → List Nat, (∀ b, b < w.heap.size → (∀ t, b ∉ φ t) → ∀ t, b ∉ φ2 t) → CVs w' φ2 f vbs (fillBox bs ys ws) ψ'
  | [], j, us, ψ0, vbs, bs, ys, ψs, hx, hb, hio, hh, hroot => by
    cases hx
    simp only [ioAgg, Option.some.injEq] at hio
    subst hio
    have hbs : ∀ ws, fillBox bs [] ws = bs := fun ws => by cases bs <;> rfl
    refine ⟨[], ψs, by simp, fun _ _ => .nil, fun c hc => (by cases hc), fun w' χ' ws φ1 g1 hs hrest hl hf hr hfree => ?_⟩
    rw [hbs]
    simp only [fillOwn] at hr
    cases hr
    refine ⟨hroot, ψs, by simp, fun φ2 hfree2 => hb.kept ⟨hs, hrest, fun r hr => ?_, fun b h1 h2 => ⟨hfree b h1 h2, hfree2 b h1 h2⟩⟩⟩
    obtain ⟨c', hc', hr'⟩ := List.mem_flatMap.1 hr
    rw [hroot c' hc'] at hr'
    cases hr'
  | x :: xs, j, us, ψ0, vbs, bs, ys, ψs, hx, hb, hio, hh, hroot => by
    cases hb with
    | nil => simp [ioAgg] at hio
    | @cons vb b ψb vbs bs ψs hb1 hb2 =>
    cases hx with
    | @cons u _ ψx us _ ψxs hx1 hx2 =>
    simp only [ioAgg] at hio
    split at hio
    · rename_i y ys1 e1 e2
      simp only [Option.some.injEq] at hio
      subst hio
      obtain ⟨χ, rest, k1, k2, k3, k4⟩ := agg_focus xs (j + 1) hx2 hb2 e2 (fun k d u' h1 h2 => by
        have := hh (k + 1) d u' (by rw [List.getElem?_cons_succ, h1]; congr 3; omega) (by simpa using h2)
        simpa using this) (fun c hc => hroot c (List.mem_cons_of_mem _ hc))
      split at e1
      · rename_i v
        simp only [Option.some.injEq] at e1
        subst e1
        obtain ⟨rfl, hsc, rfl⟩ := hx1
        refine ⟨χ, ψb ++ rest, ?_, fun φ2 g => by simpa using CVs.cons (c := CV.sc u) (ψ := []) ⟨rfl, hsc, rfl⟩ (k2 φ2 g), fun c hc => ?_, fun w' χ' ws φ1 g1 hs hrest hl hf hr hfree => ?_⟩
        · exact (List.Perm.append_left ψb k1).trans (List.perm_append_comm_assoc ψb χ rest)
        · rcases List.mem_cons.1 hc with rfl | hc
          · rfl
          · exact k3 c hc
        · simp only [fillOwn] at hr
          generalize hq : fillOwn ys1 ws = q at hr
          cases hr with
          | @cons _ _ ψ1 _ _ ψ2 hr1 hr2 =>
          subst hq
          obtain ⟨-, -, rfl⟩ := hr1
          obtain ⟨m0, ψ', m1, m2⟩ := k4 w' ψ2 ws φ1 g1 hs (fun b hb => hrest b (List.mem_append_right _ hb)) (by simpa [CV.isOwn] using hl) hf hr2 hfree
          simp only [fillBox]
          refine ⟨fun c hc => ?_, ψb ++ ψ', ?_, fun φ2 hfree2 => .cons (hb1.kept ⟨hs, fun b hb => hrest b (List.mem_append_left _ hb), fun r hr => ?_, fun b h1 h2 => ⟨hfree b h1 h2, hfree2 b h1 h2⟩⟩) (m2 φ2 hfree2)⟩
          · rcases List.mem_cons.1 hc with rfl | hc
            · exact hroot _ (List.mem_cons_self ..)
            · exact m0 c hc
          · exact (List.Perm.append_left ψb m1).trans (List.perm_append_comm_assoc ψb ψ2 rest)
          · rw [hroot _ (List.mem_cons_self ..)] at hr; cases hr
      · rename_i s' j' d0 d
        split at e1
        · rename_i hc
          simp only [Bool.and_eq_true, beq_iff_eq] at hc
          obtain ⟨rfl, rfl⟩ := hc
          simp only [Option.some.injEq] at e1
          subst e1
          have hv : vb = u := by
            have := hh 0 d0 u (by simp) (by simp)
            simpa using this
          subst hv
          have hb1 : Rd true w [vb] [d] ψb := hb1
          refine ⟨ψb ++ χ, rest, by simpa using List.Perm.append_left ψb k1, fun φ2 g => .cons hb1 (k2 φ2 g), fun c hc => ?_, fun w' χ' ws φ1 g1 hs hrest hl hf hr hfree => ?_⟩
          · rcases List.mem_cons.1 hc with rfl | hc
            · rfl
            · exact k3 c hc
          · cases ws with
            | nil => rw [List.filter_cons_of_pos rfl] at hl; simp at hl
            | cons wc ws =>
            simp only [fillOwn] at hr
            generalize hq : fillOwn ys1 ws = q at hr
            cases hr with
            | @cons _ _ ψ1 _ _ ψ2 hr1 hr2 =>
            subst hq
            simp only [List.all_cons, Bool.and_eq_true] at hf
            obtain ⟨m0, ψ', m1, m2⟩ := k4 w' ψ2 ws φ1 g1 hs hrest (by rw [List.filter_cons_of_pos rfl] at hl; simpa using hl) hf.2 hr2 hfree
            simp only [fillBox]
            refine ⟨fun c hc => ?_, ψ1 ++ ψ', by simpa using List.Perm.append_left ψ1 m1, fun φ2 hfree2 => .cons (hr1.fitAny hf.1) (m2 φ2 hfree2)⟩
            rcases List.mem_cons.1 hc with rfl | hc
            · have := hf.1
              cases c <;> simp_all [CV.fit, CV.roots]
            · exact m0 c hc
        · cases e1
      · cases e1
    · cases hio

theorem ioAgg_bare {s : Nat} {f : Nat → Value} : ∀ (xs bs ys : List CV) (j : Nat), ioAgg s j xs bs = some ys → ∀ {us : List Value} {ψ : List Nat}, CVs w φ f us xs ψ → ψ = []
  | [], bs, ys, j, h, us, ψ, hr => by cases hr; rfl
  | x :: xs, [], ys, j, h, us, ψ, hr => by cases h
  | x :: xs, b :: bs, ys, j, h, us, ψ, hr => by
    simp only [ioAgg] at h
    split at h
    · rename_i y ys1 e1 e2
      cases hr with
      | cons h1 h2 =>
      rw [ioAgg_bare xs bs ys1 (j + 1) e2 h2, List.append_nil]
      split at e1
      · exact h1.2.2
      · exact h1.1
      · cases e1
    · cases h

theorem cvs_at {f : Nat → Value} : ∀ {vs : List Value} {cs : List CV} {ψ : List Nat}, CVs w φ f vs cs ψ → ∀ (k : Nat) (c : CV) (v : Value), cs[k]? = some c → vs[k]? = some v → ∃ ψ', CVRel w φ f v ψ' c := by
  intro vs cs ψ h
  induction h with
  | nil => intro k c v h1 _; simp at h1
  | cons h1 _ ih =>
    intro k c' v' e1 e2
    cases k with
    | zero => simp at e1 e2; subst e1 e2; exact ⟨_, h1⟩
    | succ k => exact ih k c' v' (by simpa using e1) (by simpa using e2)

/-- What is lent to be written: what it owns, and what comes back. -/
theorem io_focus (h : RelW φ w0 F0 sl fx ts fv w) {x y : SV} {c : List Prop} {s : Nat} {p : List Nat} {zs : List CV} {u : Value} (hx : SlotRel w φ (valAt ts) u [] x) (hio : ioV sl x = some (c, s, p, y, zs)) (hc : ∀ q ∈ c, q) :
    ∃ χ rest, (φ (some s)).Perm (χ ++ rest) ∧ s < sl.length ∧ y.roots = [] ∧ (isBox (gt sl s) = true → p ≠ [] → ∃ b0, valAt ts s = .pointer (some ⟨b0, 0, none⟩) ∧ b0 ∈ rest) ∧ (∀ ψ' g, SlotRel w ψ' g u χ y) ∧
      ∀ (w' : World) (χ' : List Nat) (ws : List CV) (φ1 : Option Nat → List Nat) (g1 : Nat → Value), w.heap.size ≤ w'.heap.size → (∀ b ∈ rest, w'.heap[b]? = w.heap[b]?) → ws.length = zs.length → ws.all CV.fit = true → SlotRel w' φ1 g1 u χ' (ioSV y ws) →
        (∀ b, b < w.heap.size → (∀ t, b ∉ φ t) → w'.heap[b]? = w.heap[b]?) → ∃ ψ', ψ'.Perm (χ' ++ rest) ∧
          ∀ φ2 : Option Nat → List Nat, (∀ b, b < w.heap.size → (∀ t, b ∉ φ t) → ∀ t, b ∉ φ2 t) → SlotRel w' φ2 (valAt ts) (valAt ts s) ψ' (ioPut y (gt sl s) p ws) := by
  have hg := gt_rel h s
  have lt : gt sl s ≠ .dead → s < sl.length := fun hd => slot_lt rfl hd
  have back : ∀ (w' : World) (χ' : List Nat) (ws : List CV) (φ1 : Option Nat → List Nat) (g1 : Nat → Value), ws.length = 1 → ws.all CV.fit = true → CVRel w' φ1 g1 u χ' (ws.headD .un) → Rd true w' [u] [(ws.headD .un).toDV] χ' := by
    intro w' χ' ws φ1 g1 hl hf hr
    cases ws with
    | nil => cases hl
    | cons c ws =>
      have hf : c.fit = true := by simp only [List.all_cons, Bool.and_eq_true] at hf; exact hf.1
      simp only [List.headD_cons] at hr ⊢
      have := (CVs.cons (w := w') (φ := φ1) (f := g1) hr .nil).fit (by simpa using hf)
      simpa using this
  unfold ioV at hio
  split at hio
  · rename_i s0 p0 sz es
    obtain ⟨-, h1, -⟩ := hx
    split at hio
    · rename_i p1 d hd
      cases hio
      have hp : d.InP p := hc _ (by simp)
      have he : d.getP p = .sl sz es := hc _ (by simp)
      rw [hd] at hg lt
      obtain ⟨u', χ, rest, k1, k2, k3, k4⟩ := Rd.focus (F := φ (some s)) p (show Rd true w [valAt ts s] [d] (φ (some s)) from hg) (fun _ hb => hb) hp
      have : u' = u := by rw [h1] at k1; exact (Option.some.inj k1).symm
      subst this
      rw [he] at k2
      refine ⟨χ, rest, k3, lt (by simp), rfl, (fun hb => by rw [hd] at hb; cases hb), fun _ _ => k2, fun w' χ' ws φ1 g1 hs hrest hl hf hr hfree => ?_⟩
      obtain ⟨bs', m1, m2⟩ := k4 w' χ' (ws.headD .un).toDV hs hrest (back w' χ' ws φ1 g1 hl hf hr)
      rw [hd]
      exact ⟨bs', m2, fun _ _ => m1⟩
    · rename_i cs j p1 hd
      split at hio
      · rename_i d hj
        cases hio
        have hp : d.InP p1 := hc _ (by simp)
        have he : d.getP p1 = .sl sz es := hc _ (by simp)
        rw [hd] at hg lt
        obtain ⟨hroots, b0, cc, el, ψs, h2, h3, h4, h5⟩ := hg
        have hjl : j < cs.length := by
          refine Nat.lt_of_not_le fun hle => ?_
          simp [List.getD, List.getElem?_eq_none hle] at hj
        have hjc : cs[j]? = some (.own d) := by
          simp only [List.getD, List.getElem?_eq_getElem hjl, Option.getD_some] at hj
          rw [List.getElem?_eq_getElem hjl, hj]
        obtain ⟨ψ1, ψ2, g1, g2, rfl⟩ := h4.split j
        obtain ⟨ψ3, ψ4, g3, g4, rfl⟩ := g2.split 1
        have hjv : j < cc.toList.length := by rw [h4.len]; exact hjl
        have e1 : (cc.toList.drop j).take 1 = [cc.toList[j]] := by rw [List.drop_eq_getElem_cons hjv]; rfl
        have e2 : (cs.drop j).take 1 = [.own d] := by
          rw [List.drop_eq_getElem_cons hjl, (List.getElem?_eq_some_iff.1 hjc).2]; rfl
        rw [e1, e2] at g3
        obtain ⟨uv, hu, g5⟩ := g3.single
        cases hu
        have hcell : w.cell? ⟨b0, 0 + j, none⟩ = some cc.toList[j] := by
          simp only [World.cell?, h3, Nat.zero_add]
          simp at hjv
          simp [hjv]
        rw [h2] at h1
        simp only [hdr, locOf] at h1
        rw [if_pos (by rw [h5]; exact List.mem_cons_self ..), hcell] at h1
        simp only [Option.bind_some] at h1
        obtain ⟨u', χ, rest, k1, k2, k3, k4⟩ := Rd.focus (F := φ (some s)) p1 (show Rd true w [cc.toList[j]] [d] ψ3 from g5) (fun b hb => by rw [h5]; simp [hb]) hp
        have : u' = u := by rw [h1] at k1; exact (Option.some.inj k1).symm
        subst this
        rw [he] at k2
        rw [List.drop_drop, List.drop_drop] at g4
        refine ⟨χ, b0 :: (ψ1 ++ (rest ++ ψ4)), ?_, lt (by simp), rfl, fun _ _ => ⟨b0, h2, List.mem_cons_self ..⟩, fun _ _ => k2, fun w' χ' ws φ1 g1' hs hrest hl hf hr hfree => ?_⟩
        · rw [h5]
          have p1 : (ψ1 ++ (ψ3 ++ ψ4)).Perm (χ ++ (ψ1 ++ (rest ++ ψ4))) := by
            have q1 : (ψ1 ++ (ψ3 ++ ψ4)).Perm (ψ1 ++ (χ ++ (rest ++ ψ4))) := by
              refine List.Perm.append_left ψ1 ?_
              rw [← List.append_assoc]
              exact List.Perm.append_right ψ4 k3
            exact q1.trans (List.perm_append_comm_assoc ψ1 χ _)
          exact (List.Perm.cons b0 p1).trans (List.perm_middle (a := b0) (l₁ := χ)).symm
        · obtain ⟨bs', m1, m2⟩ := k4 w' χ' (ws.headD .un).toDV hs (fun x hx => hrest x (by simp [hx])) (back w' χ' ws φ1 g1' hl hf hr)
          refine ⟨b0 :: (ψ1 ++ (bs' ++ ψ4)), ?_, fun φ2 hfree2 => ?_⟩
          · have p1 : (ψ1 ++ (bs' ++ ψ4)).Perm (χ' ++ (ψ1 ++ (rest ++ ψ4))) := by
              have q1 : (ψ1 ++ (bs' ++ ψ4)).Perm (ψ1 ++ (χ' ++ (rest ++ ψ4))) := by
                refine List.Perm.append_left ψ1 ?_
                rw [← List.append_assoc]
                exact List.Perm.append_right ψ4 m2
              exact q1.trans (List.perm_append_comm_assoc ψ1 χ' _)
            exact (List.Perm.cons b0 p1).trans (List.perm_middle (a := b0) (l₁ := χ')).symm
          have hfit : ∀ {vs : List Value} {cs' : List CV} {ψ : List Nat}, CVs w φ (valAt ts) vs cs' ψ → (∀ c ∈ cs', c.roots = []) → (∀ b ∈ ψ, w'.heap[b]? = w.heap[b]?) → CVs w' φ2 (valAt ts) vs cs' ψ := fun hcv hr0 hb => by
            refine hcv.kept ⟨hs, hb, fun r hr => ?_, fun b h1 h2 => ⟨hfree b h1 h2, hfree2 b h1 h2⟩⟩
            obtain ⟨c', hc', hr'⟩ := List.mem_flatMap.1 hr
            rw [hr0 c' hc'] at hr'
            cases hr'
          have f1 := hfit g1 (fun c' hc' => hroots c' (List.mem_of_mem_take hc')) fun x hx => hrest x (by simp [hx])
          have f4 := hfit g4 (fun c' hc' => hroots c' (List.mem_of_mem_drop hc')) fun x hx => hrest x (by simp [hx])
          have mid : CVRel w' φ2 (valAt ts) cc.toList[j] bs' (.own (d.setP (ws.headD .un).toDV p1)) := m1
          have all := f1.append (CVs.cons mid f4)
          have e3 : cc.toList.take j ++ cc.toList[j] :: cc.toList.drop (j + 1) = cc.toList := by
            rw [← List.drop_eq_getElem_cons hjv, List.take_append_drop]
          have e4 : cs.take j ++ CV.own (d.setP (ws.headD .un).toDV p1) :: cs.drop (j + 1) = cs.set j (.own (d.setP (ws.headD .un).toDV p1)) := by
            rw [List.set_eq_take_append_cons_drop, if_pos hjl]
          rw [e3, e4] at all
          rw [hd]
          have hset : ioSet (.box cs) (j :: p1) ws = .box (cs.set j (.own (d.setP (ws.headD .un).toDV p1))) := by
            simp only [ioSet, hj]
          show SlotRel w' φ2 (valAt ts) (valAt ts _) _ (ioSet (.box cs) (j :: p1) ws)
          rw [hset]
          refine ⟨fun c' hc' => ?_, b0, cc, el, _, h2, ?_, all, rfl⟩
          · rcases List.mem_or_eq_of_mem_set hc' with h' | h'
            · exact hroots c' h'
            · rw [h']; rfl
          · rw [hrest b0 (by simp)]; exact h3
      · cases hio
    · cases hio
  · rename_i s0
    split at hio
    · rename_i cs hd
      split at hio
      · rename_i hf
        cases hio
        rw [hd] at hg lt
        have hu : u = valAt ts s := by
          obtain ⟨-, hv, b, o, k1, k2, k3⟩ := hx
          obtain ⟨-, b0, cc, el, ψs, h2, -⟩ := hg
          simp only [hdr, Option.some.injEq] at k1
          subst k1
          rw [h2] at k2 ⊢
          simp only [locOf, Option.some.injEq, Prod.mk.injEq] at k2
          obtain ⟨rfl, rfl⟩ := k2
          exact k3
        subst hu
        refine ⟨φ (some s), [], by simp, lt (by simp), ?_, fun _ hp => absurd rfl hp, fun ψ' g => box_fitAny hg hf, fun w' χ' ws φ1 g1 hs hrest hl hfw hr hfree => ?_⟩
        · simpa [SV.roots] using hg.1
        · rw [hd]
          exact ⟨χ', by simp, fun φ2 _ => box_fitAny hr hfw⟩
      · cases hio
    · cases hio
  · rename_i xs
    split at hio
    · rename_i s0 o hat
      split at hio
      · rename_i bs hd
        simp only [Option.map_eq_some_iff, Prod.mk.injEq] at hio
        obtain ⟨ys, hio, rfl, rfl, rfl, rfl, rfl⟩ := hio
        rw [hd] at hg lt
        obtain ⟨hroots, b0, cc, el, ψs, h2, h3, h4, h5⟩ := hg
        obtain ⟨us, hu, hxs⟩ := hx
        obtain ⟨ψ1, ψ2, g1, g2, rfl⟩ := h4.split o
        have head : ∀ (k : Nat) (d : DV) (u' : Value), xs[k]? = some (.ref s0 [o + k] d) → us.toList[k]? = some u' → (cc.toList.drop o)[k]? = some u' := fun k d u' e1 e2 => by
          obtain ⟨ψ', -, e3, -⟩ := cvs_at hxs k _ u' e1 e2
          rw [h2] at e3
          simp only [hdr, locOf] at e3
          rw [if_pos (by rw [h5]; exact List.mem_cons_self ..)] at e3
          have e4 : w.cell? ⟨b0, 0 + (o + k), none⟩ = cc.toList[o + k]? := by simp [World.cell?, h3]
          rw [e4] at e3
          rw [List.getElem?_drop]
          simpa [Option.bind_eq_some_iff] using e3
        obtain ⟨χ, rest, k1, k2, k3, k4⟩ := agg_focus xs o hxs g2 hio head fun c' hc' => hroots c' (List.mem_of_mem_drop hc')
        refine ⟨χ, b0 :: (ψ1 ++ rest), ?_, lt (by simp), List.flatMap_eq_nil_iff.2 k3, fun _ _ => ⟨b0, h2, List.mem_cons_self ..⟩, fun ψ' g => ⟨us, hu, k2 ψ' g⟩, fun w' χ' ws φ1 g1' hs hrest hl hf hr hfree => ?_⟩
        · rw [h5]
          exact (List.Perm.cons b0 ((List.Perm.append_left ψ1 k1).trans (List.perm_append_comm_assoc ψ1 χ rest))).trans (List.perm_middle (a := b0) (l₁ := χ)).symm
        · obtain ⟨us', hu', hr⟩ := hr
          rw [hu] at hu'
          cases hu'
          obtain ⟨m0, ψ', m1, m2⟩ := k4 w' χ' ws φ1 g1' hs (fun b hb => hrest b (by simp [hb])) hl hf hr hfree
          refine ⟨b0 :: (ψ1 ++ ψ'), (List.Perm.cons b0 ((List.Perm.append_left ψ1 m1).trans (List.perm_append_comm_assoc ψ1 χ' rest))).trans (List.perm_middle (a := b0) (l₁ := χ')).symm, fun φ2 hfree2 => ?_⟩
          have f1 : CVs w' φ2 (valAt ts) (cc.toList.take o) (bs.take o) ψ1 := by
            refine g1.kept ⟨hs, fun b hb => hrest b (by simp [hb]), fun r hr => ?_, fun b h1 h2 => ⟨hfree b h1 h2, hfree2 b h1 h2⟩⟩
            obtain ⟨c', hc', hr'⟩ := List.mem_flatMap.1 hr
            rw [hroots c' (List.mem_of_mem_take hc')] at hr'
            cases hr'
          have all := f1.append (m2 φ2 hfree2)
          rw [List.take_append_drop] at all
          rw [hd]
          refine ⟨fun c' hc' => ?_, b0, cc, el, _, h2, ?_, all, rfl⟩
          · rcases List.mem_append.1 hc' with h' | h'
            · exact hroots c' (List.mem_of_mem_take h')
            · exact m0 c' h'
          · rw [hrest b0 (by simp)]; exact h3
      · cases hio
    · cases hio
  · cases hio

/-- What is lent for reading beside what is lent to be written. -/
theorem lent_apart {f g : Nat → Value} {v : Value} {χ0 : List Nat} {c : CV} {X : List Nat} {φc : Option Nat → List Nat} (hφc : ∀ t, ∀ b ∈ φc t, b ∈ X) (h : CVRel w φ f v χ0 c) (h0 : ∀ b ∈ χ0, b ∉ X)
    (hfree : ∀ b, (∀ t, b ∉ φ t) → b ∉ X) (hroot : ∀ r ∈ c.roots, ∀ b ∈ φ (some r), b ∉ X) : CVRel w φc g v [] c.lent := by
  cases c with
  | un => exact trivial
  | sc u => exact ⟨h.1, h.2.1, rfl⟩
  | rd d => obtain ⟨-, bs, h1, h2⟩ := h; exact ⟨rfl, bs, h1, fun b hb t ht => hfree b (h2 b hb) (hφc t b ht)⟩
  | own d => exact ⟨rfl, χ0, Rd.weaken h, fun b hb t ht => h0 b hb (hφc t b ht)⟩
  | ref s p d => obtain ⟨-, -, bs, h1, h2⟩ := h; exact ⟨rfl, bs, h1, fun b hb t ht => hroot s (by simp [CV.roots]) b (h2 b hb) (hφc t b ht)⟩
  | sub s p lo d => obtain ⟨-, a, n, cap, a', n', cap', bs, -, -, -, h1, h2⟩ := h; exact ⟨rfl, bs, h1, fun b hb t ht => hroot s (by simp [CV.roots]) b (h2 b hb) (hφc t b ht)⟩
  | nb es => exact ⟨rfl, h.2⟩
  | hd s p => exact trivial
theorem lents_apart {f g : Nat → Value} {vs : List Value} {χ0 : List Nat} {cs : List CV} {X : List Nat} {φc : Option Nat → List Nat} (hφc : ∀ t, ∀ b ∈ φc t, b ∈ X) (h : CVs w φ f vs cs χ0) (h0 : ∀ b ∈ χ0, b ∉ X)
    (hfree : ∀ b, (∀ t, b ∉ φ t) → b ∉ X) (hroot : ∀ r ∈ cs.flatMap CV.roots, ∀ b ∈ φ (some r), b ∉ X) : CVs w φc g vs (cs.map CV.lent) [] := by
  induction h with
  | nil => exact .nil
  | @cons v c ψ vs cs ψs h1 _ ih =>
    have := CVs.cons (lent_apart (g := g) hφc h1 (fun b hb => h0 b (by simp [hb])) hfree fun r hr => hroot r (by simp [hr]))
      (ih (fun b hb => h0 b (by simp [hb])) fun r hr => hroot r (by simp only [List.flatMap_cons, List.mem_append]; exact .inr hr))
    simpa using this
theorem ptr_apart {v : Value} {es : List DV} {X : List Nat} {φc : Option Nat → List Nat} (hφc : ∀ t, ∀ b ∈ φc t, b ∈ X) (hfree : ∀ b, (∀ t, b ∉ φ t) → b ∉ X) (h : PtrRd w φ v es) : PtrRd w φc v es := by
  obtain ⟨b, o, vs, bs, h1, h2, h3, h4, h5, h6⟩ := h
  exact ⟨b, o, vs, bs, h1, h2, h3, h4, fun t ht => hfree b h5 (hφc t b ht), fun b' hb' t ht => hfree b' (h6 b' hb') (hφc t b' ht)⟩
theorem ptrs_apart {vs : List Value} {cs : List (List DV)} {X : List Nat} {φc : Option Nat → List Nat} (hφc : ∀ t, ∀ b ∈ φc t, b ∈ X) (hfree : ∀ b, (∀ t, b ∉ φ t) → b ∉ X) (h : PtrRds w φ vs cs) : PtrRds w φc vs cs := by
  induction h with
  | nil => exact .nil
  | cons h _ ih => exact .cons (ptr_apart hφc hfree h) ih

theorem free_rd {f : Nat → Value} {vs : List Value} {cs : List CV} {ψ : List Nat} (h : CVs w φ f vs cs ψ) (hf : cs.all CV.free = true) : ∃ bs, Rd false w vs (cs.map CV.toDV) bs ∧ ∀ b ∈ bs, b ∈ ψ ∨ ∀ t, b ∉ φ t := by
  induction h with
  | nil => exact ⟨[], .nil, fun b hb => by cases hb⟩
  | @cons v c ψ vs cs ψs h1 _ ih =>
    simp only [List.all_cons, Bool.and_eq_true] at hf
    obtain ⟨bs, h2, h3⟩ := ih hf.2
    cases c with
    | sc u =>
      obtain ⟨rfl, hs, rfl⟩ := h1
      exact ⟨bs, .sc hs h2, fun b hb => by simpa using h3 b hb⟩
    | rd d =>
      obtain ⟨rfl, bs1, h4, h5⟩ := h1
      refine ⟨bs1 ++ bs, by simpa [CV.toDV] using h4.append h2, fun b hb => ?_⟩
      rcases List.mem_append.1 hb with hb | hb
      · exact .inr (h5 b hb)
      · simpa using h3 b hb
    | own d =>
      have h1 : Rd true w [v] [d] ψ := h1
      refine ⟨ψ ++ bs, by simpa [CV.toDV] using h1.weaken.append h2, fun b hb => ?_⟩
      rcases List.mem_append.1 hb with hb | hb
      · exact .inl (by simp [hb])
      · rcases h3 b hb with h' | h'
        · exact .inl (by simp [h'])
        · exact .inr h'
    | _ => simp [CV.free] at hf

theorem caps_rel (h : RelW φ w0 F0 sl fx ts fv w) {X : List Nat} {φc : Option Nat → List Nat} (hφc : ∀ t, ∀ b ∈ φc t, b ∈ X) (hfree : ∀ b, (∀ t, b ∉ φ t) → b ∉ X) : ∀ {ss : List Nat} {caps : List (List DV)}, capsV sl ss = some caps →
    (∀ r ∈ ss, ∀ b ∈ φ (some r), b ∉ X) → PtrRds w φc (ss.map (valAt ts)) caps
  | [], caps, hx, _ => by cases hx; exact .nil
  | s :: ss, caps, hx, hr => by
    simp only [capsV] at hx
    split at hx
    · rename_i cs r hb hr'
      split at hx
      · rename_i hf
        cases hx
        have hg := gt_rel h s
        rw [hb] at hg
        obtain ⟨-, b, c, el, ψs, h1, h2, h3, h4⟩ := hg
        obtain ⟨bs, k1, k2⟩ := free_rd h3 hf
        have hs := hr s (List.mem_cons_self ..)
        rw [h4] at hs
        refine .cons ⟨b, 0, c.toList, bs, h1, fun k v hk => ?_, (h.lt (some s) b (by rw [h4]; exact List.mem_cons_self ..)).1, k1, fun t ht => hs b (List.mem_cons_self ..) (hφc t b ht), fun b' hb' t ht => ?_⟩
          (caps_rel h hφc hfree hr' fun r hr1 => hr r (List.mem_cons_of_mem _ hr1))
        · simp only [World.cell?, h2, Nat.zero_add]
          simpa using hk
        · rcases k2 b' hb' with g | g
          · exact hs b' (List.mem_cons_of_mem _ g) (hφc t b' ht)
          · exact hfree b' g (hφc t b' ht)
      · cases hx
    · cases hx

theorem argV_apart {g : Nat → Value} (h : RelW φ w0 F0 sl fx ts fv w) {X : List Nat} {φc : Option Nat → List Nat} (hφc : ∀ t, ∀ b ∈ φc t, b ∈ X) (hfree : ∀ b, (∀ t, b ∉ φ t) → b ∉ X)
    {ty : TypeId} {o : Operand} {x y : SV} (hx : opView tb ty sl o = some x) (hy : argV sl x = some y) (hroot : ∀ r ∈ x.roots, ∀ b ∈ φ (some r), b ∉ X) (hagg : ∀ t cs, o = .tmp t → gt sl t = .one (.agg cs) → ∀ b ∈ φ (some t), b ∉ X) :
    SlotRel w φc g (Act.eval ⟨ts, ds⟩ o) [] y := by
  have hrel : flat x = true → SlotRel w φ (valAt ts) (Act.eval ⟨ts, ds⟩ o) [] x := fun hf => opView_rel h hx hf
  unfold argV at hy
  split at hy
  · rename_i c
    cases hy
    exact lent_apart hφc (hrel rfl) (fun b hb => by cases hb) hfree fun r hr => hroot r (by simpa [SV.roots, RV.roots] using hr)
  · rename_i cs
    cases hy
    cases o with
    | tmp t =>
      simp only [opView, Option.some.injEq] at hx
      have hg := gt_rel h t
      have : ∃ cs0, gt sl t = .one (.agg cs0) ∧ cs = cs0.map (resC sl) := by
        unfold view at hx
        split at hx
        · cases hx
        · cases hx
        · rename_i cs0 e
          cases hx
          exact ⟨cs0, e, rfl⟩
        · cases hx
        · rename_i n1 n2 n3 n4
          exact absurd hx (n3 cs)
      obtain ⟨cs0, this, rfl⟩ := this
      have ha := hagg t cs0 rfl this
      rw [this] at hg
      obtain ⟨vs, h1, h2⟩ := hg
      exact ⟨vs, h1, lents_apart hφc (resCs_rel h h2) ha hfree fun r hr => hroot r (by simpa [SV.roots, RV.roots] using hr)⟩
    | const v =>
      simp only [opView] at hx
      unfold constSV at hx
      split at hx <;> first | (cases hx; done) | (split at hx <;> cases hx) | cases hx
    | func f => simp [opView] at hx
    | global g => simp [opView] at hx
  · cases hy; exact ⟨rfl, ptr_apart hφc hfree (hrel rfl).2⟩
  · cases hy
    obtain ⟨-, ps, h1, h2⟩ := hrel rfl
    exact ⟨rfl, ps, h1, ptrs_apart hφc hfree h2⟩
  · rename_i f ss
    simp only [Option.map_eq_some_iff] at hy
    obtain ⟨caps, hy, rfl⟩ := hy
    obtain ⟨-, ps, h1, h2⟩ := hrel rfl
    refine ⟨rfl, ps, h1, ?_⟩
    rw [h2]
    exact caps_rel h hφc hfree hy fun r hr => hroot r (by simpa [SV.roots] using hr)
  · cases hy
end
end Go.Proofs.Ytckcehmggdnliaa.DL
