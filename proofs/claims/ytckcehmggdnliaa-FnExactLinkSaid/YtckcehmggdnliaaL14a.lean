/- The data level, part 14a: parts put together: structs, rows; function values; slices held against nil. -/
import Derived.Test.YtckcehmggdnliaaL14
import Derived.Laws.Tables
import Derived.Great.BuildSlice
import Derived.Laws.Cover3
namespace Go.Proofs.Ytckcehmggdnliaa.DL
open Go Go.RowKit

section
variable {P : Program} {C : Cfg} {tb : Tb} {φ : Option Nat → List Nat} {w0 w w' : World} {F0 : List Nat} {sl : Sl} {fx : SV} {ts : Array Value} {fv : Value} {ds : List Deferred}

theorem putT_len {sl : Sl} {d : Nat} {x : SV} : (putT sl d x).length = sl.length := by simp [putT]
theorem gt_putT {sl : Sl} {d : Nat} {x : SV} (h : d < sl.length) : gt (putT sl d x) d = killSV d x := by
  simp [gt, putT, h]

theorem RVs.snoc {f : Nat → Value} {vs : List Value} {rs : List RV} {χ ψ : List Nat} {v : Value} {r : RV} (h : RVs w φ f vs rs χ) (h' : RVRel w φ f v ψ r) :
    RVs w φ f (vs ++ [v]) (rs ++ [r]) (χ ++ ψ) := by
  induction h with
  | nil => simpa using RVs.cons h' .nil
  | cons h _ ih => rw [List.append_assoc]; exact .cons h ih

def joinF (φ : Option Nat → List Nat) (t : Nat) (ψ : List Nat) : Option Nat → List Nat := fun s => if s = none then φ none ++ ψ else if s = some t then [] else φ s
/-- What slot t owns (or part of it) joins the tuple in flight; the slot is dead then. -/
theorem RelW.join {xs : List RV} {vs : Array Value} (h : RelW φ w0 F0 sl (.tup xs) ts (.tuple vs) w) (hx : ∀ x ∈ xs, x.roots = []) (t : Nat) {v : Value} {x : RV} {ψ : List Nat}
    (hψ : ψ.Sublist (φ (some t))) (hr : RVRel w φ (valAt ts) v ψ x) (hxr : x.roots = []) :
    ∃ φ', RelW φ' w0 F0 (putT sl t .dead) (.tup (xs ++ [x])) ts (.tuple (vs.push v)) w := by
  have hφ' : ∀ b, (∀ s, b ∉ φ s) → ∀ s, b ∉ joinF φ t ψ s := fun b hb s hs => by
    simp only [joinF] at hs
    split at hs
    · rcases List.mem_append.1 hs with h' | h'
      · exact hb _ h'
      · exact hb _ (hψ.subset h')
    · split at hs
      · cases hs
      · exact hb s hs
  have kept : ∀ χ, Kept w φ (valAt ts) w (joinF φ t ψ) (valAt ts) χ [] := fun χ =>
    ⟨Nat.le_refl _, fun _ _ => rfl, fun r hr => (by cases hr), fun b _ hf => ⟨rfl, hφ' b hf⟩⟩
  have dj0 : ∀ b ∈ φ none, b ∉ ψ := fun b hb hb' => h.dj none (some t) (by simp) b hb (hψ.subset hb')
  refine ⟨joinF φ t ψ, ⟨by rw [putT_len]; exact h.len, fun s y hy => ?_, fun s => ?_, fun s s' hne b hb hb' => ?_, fun s b hb => ?_, h.ext⟩⟩
  rotate_left
  all_goals simp only [joinF] at *
  · split
    · exact List.nodup_append.2 ⟨h.nd none, hψ.nodup (h.nd _), fun a ha b hb e => dj0 a ha (e ▸ hb)⟩
    · split
      · exact .nil
      · exact h.nd s
  · split at hb
    · rename_i e
      split at hb'
      · rename_i e'; exact hne (e.trans e'.symm)
      · split at hb'
        · cases hb'
        · rename_i e1 e2
          rcases List.mem_append.1 hb with h' | h'
          · exact h.dj none s' (fun e' => e1 e'.symm) b h' hb'
          · exact h.dj (some t) s' (fun e' => e2 e'.symm) b (hψ.subset h') hb'
    · split at hb
      · cases hb
      · rename_i e1 e2
        split at hb'
        · rcases List.mem_append.1 hb' with h' | h'
          · exact h.dj s none e1 b hb h'
          · exact h.dj s (some t) e2 b hb (hψ.subset h')
        · split at hb'
          · cases hb'
          · exact h.dj s s' hne b hb hb'
  · split at hb
    · rcases List.mem_append.1 hb with h' | h'
      · exact h.lt _ b h'
      · exact h.lt _ b (hψ.subset h')
    · split at hb
      · cases hb
      · exact h.lt s b hb
  · cases s with
    | none =>
      cases hy
      obtain ⟨us, h1, h2⟩ := h.slot none _ rfl
      have h1 : Value.tuple vs = .tuple us := h1
      cases h1
      refine ⟨vs.push v, rfl, ?_⟩
      simp only [if_true, Array.toList_push]
      refine RVs.snoc (h2.kept ((kept _).sub (fun b hb => hb) fun r hr => ?_)) (hr.kept ((kept _).sub (fun b hb => hb) fun r hr => ?_))
      · obtain ⟨y, hy, hr⟩ := List.mem_flatMap.1 hr
        rw [hx y hy] at hr; cases hr
      · rw [hxr] at hr; cases hr
    | some s =>
      simp only [sget, putT] at hy
      by_cases e : s = t
      · subst e
        rw [List.getElem?_set] at hy
        simp only [if_true] at hy
        split at hy
        · cases hy; exact trivial
        · cases hy
      · rw [List.getElem?_set_ne (Ne.symm e), List.getElem?_map] at hy
        cases hz : sl[s]? with
        | none => simp [hz] at hy
        | some z =>
          simp only [hz, Option.map_some, Option.some.injEq] at hy
          subst hy
          rw [if_neg (by simp), if_neg (by simpa using e)]
          exact SlotRel.kept (killSV_rel t (h.slot (some s) z hz)) ⟨Nat.le_refl _, fun _ _ => rfl, fun r hr' => by
            have hne : r ≠ t := fun e => not_root_kill t z (e ▸ hr')
            exact ⟨rfl, (by show joinF φ t ψ (some r) = φ (some r); simp [joinF, hne]), fun _ _ => rfl⟩, fun b _ hf => ⟨rfl, hφ' b hf⟩⟩


theorem setN_self (φ : Option Nat → List Nat) : setN φ (φ none) = φ := by
  funext t
  unfold setN
  split
  · rename_i e; rw [e]
  · rfl
/-- What owns nothing joins the tuple in flight. -/
theorem RelW.joinB {xs : List RV} {vs : Array Value} (h : RelW φ w0 F0 sl (.tup xs) ts (.tuple vs) w) {v : Value} {x : RV} (hr : RVRel w φ (valAt ts) v [] x) :
    RelW φ w0 F0 sl (.tup (xs ++ [x])) ts (.tuple (vs.push v)) w := by
  have := h.refly (Ext.refl _ _) (v := .tuple (vs.push v)) (ψ := φ none) (x := .tup (xs ++ [x])) (h.nd none) (fun b hb => ⟨(h.lt none b hb).1, .inl hb⟩) (by
    rw [setN_self]
    obtain ⟨us, h1, h2⟩ := h.slot none _ rfl
    have h1 : Value.tuple vs = .tuple us := h1
    cases h1
    refine ⟨vs.push v, rfl, ?_⟩
    have := RVs.snoc h2 hr
    simpa using this)
  rwa [setN_self] at this

/-- The parts of a struct or a row, as they lie in flight. -/
inductive Parts (pl : Nat → Option (Nat × Nat)) (total : Nat) : List (Nat × Operand) → List (Nat × List CV) → List RV → Prop
  | nil : Parts pl total [] [] []
  | cons {i o n : Nat} {x : Operand} {cs : List CV} {y : RV} {ps : List (Nat × Operand)} {r : List (Nat × List CV)} {ys : List RV} :
      pl i = some (o, n) → cs.length = n → o + n ≤ total → cellsOf (.one y) = some cs → cs.all CV.free = true → Parts pl total ps r ys → Parts pl total ((i, x) :: ps) ((o, cs) :: r) (y :: ys)

theorem partC_one {v : SV} {cs : List CV} (h : partC v = some cs) : ∃ y : RV, v = .one y ∧ cellsOf v = some cs ∧ cs.all CV.free = true ∧ y.roots = [] := by
  unfold partC at h
  split at h
  · rename_i c
    split at h
    · rename_i hf
      cases h
      exact ⟨_, rfl, rfl, by simpa using hf, by cases c <;> simp_all [CV.free, RV.roots, CV.roots]⟩
    · cases h
  · rename_i cs'
    split at h
    · rename_i hf
      cases h
      refine ⟨_, rfl, rfl, hf, ?_⟩
      simp only [RV.roots, List.flatMap_eq_nil_iff]
      intro c hc
      have := List.all_eq_true.1 hf c hc
      cases c <;> simp_all [CV.free, CV.roots]
    · cases h
  · cases h

theorem takeParts_sound {pl : Nat → Option (Nat × Nat)} {total : Nat} : ∀ (ps : List (Nat × Operand)) {φ : Option Nat → List Nat} {sl : Sl} {xs : List RV} {vs : Array Value} {r : List (Nat × List CV)} {sl' : Sl},
    RelW φ w0 F0 sl (.tup xs) ts (.tuple vs) w → (∀ x ∈ xs, x.roots = []) → takeParts tb pl total sl ps = some (r, sl') →
      ∃ φ' ys, RelW φ' w0 F0 sl' (.tup (xs ++ ys)) ts (.tuple (vs ++ (ps.map fun p => Act.eval ⟨ts, ds⟩ p.2).toArray)) w ∧ Parts pl total ps r ys
  | [], φ, sl, xs, vs, r, sl', h, hx, ht => by
    simp only [takeParts, Option.some.injEq, Prod.mk.injEq] at ht
    obtain ⟨rfl, rfl⟩ := ht
    exact ⟨φ, [], by simpa using h, .nil⟩
  | (i, x) :: ps, φ, sl, xs, vs, r, sl', h, hx, ht => by
    simp only [takeParts] at ht
    split at ht
    · rename_i o n v sl1 hpl hv
      split at ht
      · rename_i cs r' sl2 hcs hr'
        split at ht
        · rename_i hc
          cases ht
          simp only [Bool.and_eq_true, beq_iff_eq] at hc
          have hle : o + n ≤ total := Nat.le_of_ble_eq_true hc.2
          obtain ⟨y, rfl, g1, g2, g3⟩ := partC_one hcs
          have next : ∃ φ1, RelW φ1 w0 F0 sl1 (.tup (xs ++ [y])) ts (.tuple (vs.push (Act.eval ⟨ts, ds⟩ x))) w := by
            cases x with
            | tmp t =>
              simp only [opTake, takeT, Option.some.injEq] at hv
              split at hv
              · simp only [Prod.mk.injEq] at hv
                obtain ⟨e1, rfl⟩ := hv
                have hy : gt sl t = .one y := by
                  unfold killSV at e1
                  split at e1
                  · cases e1
                  · exact e1
                have hg := gt_rel h t
                rw [hy] at hg
                exact h.join hx t (x := y) (List.Sublist.refl _) hg g3
              · rename_i ho
                simp only [Prod.mk.injEq] at hv
                obtain ⟨e1, rfl⟩ := hv
                have hg := gt_rel h t
                rw [e1] at ho hg
                exact ⟨φ, h.joinB (SlotRel.bare (x := .one y) hg (by simpa using ho))⟩
            | const v =>
              simp only [opTake, Option.map_eq_some_iff] at hv
              obtain ⟨z, hz, he⟩ := hv
              cases he
              exact ⟨φ, h.joinB (const_rel φ _ hz)⟩
            | func f => simp [opTake] at hv
            | global g => simp [opTake] at hv
          obtain ⟨φ1, h1⟩ := next
          obtain ⟨φ2, ys, k1, k2⟩ := takeParts_sound ps h1 (fun z hz => by
            rcases List.mem_append.1 hz with hz | hz
            · exact hx z hz
            · have : z = y := by simpa using hz
              rw [this]; exact g3) hr'
          exact ⟨φ2, y :: ys, by simpa using k1, .cons hpl hc.1 hle g1 g2 k2⟩
        · cases ht
      · cases ht
    · cases ht

theorem foldl_set (us : List Value) (o : Nat) : ∀ (k : Nat) (cells : Array Value), ((us.zipIdx k).foldl (fun (cs : Array Value) (x : Value × Nat) => cs.setIfInBounds (o + x.2) x.1) cells).toList = setRange cells.toList (o + k) us := by
  induction us with
  | nil => intro k cells; rfl
  | cons u us ih =>
    intro k cells
    simp only [List.zipIdx_cons, List.foldl_cons, setRange]
    rw [ih]
    simp [Nat.add_assoc]

theorem fill_sound {pl : Nat → Option (Nat × Nat)} {total : Nat} {f : Nat → Value} {ev : Operand → Value} {ps : List (Nat × Operand)} {r : List (Nat × List CV)} {ys : List RV} (hp : Parts pl total ps r ys) :
    ∀ {ψ χ : List Nat} {zs : List CV} {cells : Array Value}, RVs w φ f (ps.map fun p => ev p.2) ys ψ → CVs w φ f cells.toList zs χ → zs.length = total →
      ∃ cells' ψ', Instr.fill pl cells (ps.map fun p => (p.1, ev p.2)) = some cells' ∧ CVs w φ f cells'.toList (fillC zs r) ψ' ∧ ∃ dr, (χ ++ ψ).Perm (ψ' ++ dr) := by
  induction hp with
  | nil =>
    intro ψ χ zs cells h1 h2 _
    have : ψ = [] := by
      generalize hv : (List.map (fun p : Nat × Operand => ev p.2) []) = vs at h1
      cases h1 with
      | nil => rfl
    subst this
    exact ⟨cells, χ, rfl, h2, [], by simp⟩
  | @cons i o n x cs y ps r ys e1 e2 e3 e4 e5 _ ih =>
    intro ψ χ zs cells h1 h2 hz
    generalize hv : (List.map (fun p : Nat × Operand => ev p.2) ((i, x) :: ps)) = vs at h1
    cases h1 with
    | @cons v r' ψ1 vs' rs' ψ2 k1 k2 =>
      simp only [List.map_cons, List.cons.injEq] at hv
      obtain ⟨rfl, rfl⟩ := hv
      have hc := cells_rel (x := .one y) k1 e4 e5
      have hcl : (ev x).cells.size = n := by have := hc.len; simpa [e2] using this
      have hcz : cells.size = zs.length := by simpa using h2.len
      obtain ⟨ψ3, g1, dr, g2⟩ := h2.setRange (j := o) (by rw [e2, hz]; exact e3) hc
      have hset := foldl_set (ev x).cells.toList o 0 cells
      obtain ⟨cells', ψ', g3, g4, dr', g5⟩ := ih (cells := ((ev x).cells.toList.zipIdx.foldl (fun (cs : Array Value) (x : Value × Nat) => cs.setIfInBounds (o + x.2) x.1) cells)) k2 (by rw [hset]; exact g1) (by rw [setRange_length]; exact hz)
      refine ⟨cells', ψ', ?_, g4, dr ++ dr', ?_⟩
      · simp only [List.map_cons, Instr.fill, e1]
        rw [if_neg (by simp [hcl, hcz, hz]; exact e3)]
        rw [← g3]
        congr 1
        rw [← Array.foldl_toList, Array.toList_zipIdx]
      · have p1 : (χ ++ (ψ1 ++ ψ2)).Perm ((ψ3 ++ dr) ++ ψ2) := by rw [← List.append_assoc]; exact List.Perm.append_right ψ2 g2
        have p2 : ((ψ3 ++ dr) ++ ψ2).Perm (dr ++ (ψ3 ++ ψ2)) := by
          rw [List.append_assoc]
          refine (List.perm_append_comm_assoc ψ3 dr ψ2)
        refine p1.trans (p2.trans ?_)
        refine (List.Perm.append_left dr g5).trans ?_
        exact (List.perm_append_comm_assoc dr ψ' dr')

end

section
variable {P : Program} {tb : Tb} {φ : Option Nat → List Nat} {w0 w w' : World} {F0 : List Nat} {sl : Sl} {fx : SV} {ts : Array Value} {fv : Value} {ds : List Deferred}

/-- The parts, taken, fill a row of zeros. -/
theorem parts_fill {pl : Nat → Option (Nat × Nat)} {total : Nat} {ps : List (Nat × Operand)} {r : List (Nat × List CV)} {sl' : Sl} (h : RelW φ w0 F0 sl fx ts fv w) (ht : takeParts tb pl total sl ps = some (r, sl'))
    {zs : List CV} {cells : Array Value} (hz : ∀ (φ : Option Nat → List Nat), CVs w φ (valAt ts) cells.toList zs []) (hl : zs.length = total) :
    ∃ cells' φ', Instr.fill pl cells (ps.map fun p => (p.1, Act.eval ⟨ts, ds⟩ p.2)) = some cells' ∧ RelW φ' w0 F0 sl' (.one (.agg (fillC zs r))) ts (.agg cells') w := by
  have h0 : RelW (setN φ []) w0 F0 sl (.tup []) ts (.tuple #[]) w := h.see ⟨#[], rfl, .nil⟩
  obtain ⟨φ1, ys, h1, h2⟩ := takeParts_sound (ds := ds) ps h0 (fun x hx => by cases hx) ht
  obtain ⟨us, h3, h4⟩ := h1.slot none _ rfl
  simp only [vget, List.nil_append, Value.tuple.injEq] at h3 h4
  subst h3
  simp only [Array.toList_append, List.nil_append] at h4
  obtain ⟨cells', ψ', g1, g2, dr, g3⟩ := fill_sound (ev := Act.eval ⟨ts, ds⟩) h2 h4 (hz φ1) hl
  simp only [List.nil_append] at g3
  have hnd := List.nodup_append.1 ((g3.nodup_iff).1 (h1.nd none))
  refine ⟨cells', _, g1, h1.refly (Ext.refl _ _) (v := .agg cells') (ψ := ψ') (x := .one (.agg (fillC zs r))) hnd.1 (fun b hb => ?_) ⟨cells', rfl, ?_⟩⟩
  · have hb' : b ∈ φ1 none := g3.mem_iff.2 (by simp [hb])
    exact ⟨(h1.lt none b hb').1, .inl hb'⟩
  · have hr : ∀ s, s ∉ (fillC zs r).flatMap CV.roots ∨ s ∈ (fillC zs r).flatMap CV.roots := fun s => (Decidable.em _).symm
    refine g2.kept ⟨Nat.le_refl _, fun _ _ => rfl, fun r _ => ⟨rfl, by simp [setN], fun _ _ => rfl⟩, fun b _ hf => ⟨rfl, fun t ht => ?_⟩⟩
    unfold setN at ht
    split at ht
    · exact hf none (g3.mem_iff.2 (by simp [ht]))
    · exact hf t ht

theorem sliceD_rel' {w : World} {φ : Option Nat → List Nat} {g : Nat → Value} {v : Value} {χ : List Nat} {x : SV} {d : DV} (hd : sliceD x = some d) (h : SlotRel w φ g v χ x) : ∃ o bs, Rd o w [v] [d] bs := by
  unfold sliceD at hd
  split at hd
  · cases hd; exact ⟨_, _, h⟩
  · cases hd; obtain ⟨-, bs, h1, -⟩ := h; exact ⟨_, _, h1⟩
  · cases hd; obtain ⟨-, -, bs, h1, -⟩ := h; exact ⟨_, _, h1⟩
  · cases hd; obtain ⟨-, a, n, cap, a', n', cap', bs, -, -, -, h1, -⟩ := h; exact ⟨_, _, h1⟩
  · cases hd

theorem info_zero (hT : TbOk P tb) {t : TypeId} (hk : (tb t).k ≠ .other) : (tb t).zero.all zeroOk = true ∧ (tb t).zero.length = (tb t).size ∧ 0 < (tb t).size := by
  have := (hT t).1
  unfold TIok at this
  split at this
  · rename_i h; exact absurd h hk
  · exact ⟨this.2.1, this.2.2.1, this.2.2.2.1⟩

theorem build_sound (hT : TbOk P tb) (h : RelW φ w0 F0 sl fx ts fv w) {t ty : TypeId} {ps : Array (Nat × Operand)} {cs : List Prop} {x : SV} {sl' : Sl}
    (hx : opV tb sl ty (.build t ps) = some (cs, x, sl')) : Sound P w0 F0 ts ds w (.build t ps) ty x sl' := by
  have fin : ∀ (cells : Array Value), P.built t (ps.toList.map fun p => (p.1, Act.eval ⟨ts, ds⟩ p.2)) = some cells → ∀ φ', RelW φ' w0 F0 sl' x ts (.agg cells) w → Sound P w0 F0 ts ds w (.build t ps) ty x sl' := by
    intro cells hb φ' hr
    refine ⟨_, w, φ', yields_val (s := Instr.build t (ps.map fun (i, x) => (i, Act.eval ⟨ts, ds⟩ x))) (fun _ _ _ _ => rfl) (run_build w t _ cells ?_), hr⟩
    rw [← hb]
    simp
  simp only [opV] at hx
  split at hx
  · rename_i offs hk
    simp only [Option.map_eq_some_iff, Prod.mk.injEq] at hx
    obtain ⟨⟨r, s⟩, ht, -, rfl, rfl⟩ := hx
    have hko : (tb t).k ≠ .other := by rw [hk]; simp
    obtain ⟨j, z, h1, h2, h3, h4, h5⟩ := info_of hT hko
    obtain ⟨-, -, -, -, fs, g1, g2, g3, g4⟩ := tiOf hT hk
    obtain ⟨cells', φ', k1, k2⟩ := parts_fill (ds := ds) h ht (zs := (tb t).zero) (cells := z.cells) (fun φ => by rw [h4]; exact CVs.zero (info_zero hT hko).1) rfl
    refine fin cells' ?_ φ' k2
    simp only [Program.built, h1, g1, h3, g4]
    rw [← k1]
    congr 1
    funext i
    simp
  · rename_i n e hk
    split at hx
    · rename_i hpos
      simp only [Option.map_eq_some_iff, Prod.mk.injEq] at hx
      obtain ⟨⟨r, s⟩, ht, -, rfl, rfl⟩ := hx
      have hko : (tb t).k ≠ .other := by rw [hk]; simp
      obtain ⟨j, z, h1, h2, h3, h4, h5⟩ := info_of hT hko
      have g1 : P.underlying t = some (.array n e) := (tiOf hT hk).2.2.2.2
      have hke : (tb e).k ≠ .other := not_other hT (Nat.le_of_ble_eq_true hpos)
      obtain ⟨je, ze, i1, i2, -⟩ := info_of hT hke
      obtain ⟨cells', φ', k1, k2⟩ := parts_fill (ds := ds) h ht (zs := (tb t).zero) (cells := z.cells) (fun φ => by rw [h4]; exact CVs.zero (info_zero hT hko).1) rfl
      refine fin cells' ?_ φ' k2
      simp only [Program.built, h1, g1, h3, i1, i2]
      exact k1
    · cases hx
  · cases hx

theorem CVs.zeroRow {f : Nat → Value} {zs : List CV} (hz : zs.all zeroOk = true) : ∀ n, CVs w φ f (List.replicate n (zs.map zeroV)).flatten (List.replicate n zs).flatten []
  | 0 => .nil
  | n + 1 => by
    simp only [List.replicate_succ, List.flatten_cons]
    have := (CVs.zero (w := w) (φ := φ) (f := f) hz).append (CVs.zeroRow hz n)
    simpa using this

theorem buildSlice_run (hT : TbOk P tb) {t e : TypeId} {len : Nat} {parts : Array (Nat × Value)} {cells : Array Value} (hk : (tb t).k = .slice e) (hpos : 0 < (tb e).size) (hsm : len * (tb e).size ≤ 16777216)
    (h : ∀ z0 : Array Value, z0.toList = (List.replicate len ((tb e).zero.map zeroV)).flatten → Instr.fill (fun i => some (i * (tb e).size, (tb e).size)) z0 parts.toList = some cells) :
    (Instr.buildSlice t len parts).run P w = .ok (.slice (some ⟨w.heap.size, 0, none⟩) len len) (w.alloc (.cells cells e)) := by
  obtain ⟨j, z, h1, h2, h3, h4, h5⟩ := info_of hT (not_other hT hpos)
  have hu := (under_of hT).2.1 e hk
  have hzs : z.cells.size = (tb e).size := by
    have := congrArg List.length h4
    simpa [(info_zero hT (not_other hT hpos)).2.1] using this
  have hrow : (madeCells z.cells (len * (tb e).size)).toList = (List.replicate len ((tb e).zero.map zeroV)).flatten := by
    rw [← hzs, madeCells_rows, h4]
  have hf := h _ hrow
  have hsm' : ¬ (16777216 < len * (tb e).size) := by omega
  by_cases h0 : len * (tb e).size = 0
  · have hl : len = 0 := by
      rcases Nat.mul_eq_zero.1 h0 with h' | h'
      · exact h'
      · omega
    subst hl
    have : madeCells z.cells (0 * (tb e).size) = #[] := by simp [madeCells]
    rw [this] at hf
    simp [Instr.buildSlice, run_underlying hu, sizeOf, typeInfo, h1, h2, hf, newRow, show Array.range 0 = #[] from rfl]
  · simp only [madeCells] at hf
    simp [Instr.buildSlice, run_underlying hu, sizeOf, typeInfo, zeroValue, h1, h2, h3, hsm', h0, hf, newRow]

theorem buildRow_sound {e t ty : TypeId} {len sz : Nat} {ps : Array (Nat × Operand)} {cells' : Array Value} {CS : List CV} (k2 : RelW φ w0 F0 sl (.one (.agg CS)) ts (.agg cells') w) (hfit : CS.all CV.fit = true)
    (hlf : CS.length = len * sz) (hpos : 0 < sz) (hrun : ∀ parts : Array (Nat × Value), parts.toList = ps.toList.map (fun p => (p.1, Act.eval ⟨ts, ds⟩ p.2)) → (Instr.buildSlice t len parts).run P w = .ok (.slice (some ⟨w.heap.size, 0, none⟩) len len) (w.alloc (.cells cells' e))) :
    Sound P w0 F0 ts ds w (.buildSlice t len ps) ty (.one (.cell (.own (.sl sz (CS.map CV.toDV))))) sl := by
  have h4 : CVs w φ (valAt ts) cells'.toList CS (φ none) := by
    obtain ⟨vs, hv, h4⟩ := k2.slot none _ rfl
    have hv : Value.agg cells' = .agg vs := hv
    cases hv
    exact h4
  have hrd := h4.fit hfit
  have hl4 : cells'.size = len * sz := by
    have e1 : cells'.toList.length = _ := h4.len
    rw [hlf] at e1
    simpa using e1
  have hsz : (w.alloc (.cells cells' e)).heap.size = w.heap.size + 1 := by show (w.heap.push _).size = _; simp
  have hx0 := Ext.alloc w (.cells cells' e)
  have hlt : ∀ b ∈ φ none, b < w.heap.size := fun b hb => (k2.lt none b hb).1
  have hrd' : Rd true (w.alloc (.cells cells' e)) cells'.toList (CS.map CV.toDV) (φ none) :=
    hrd.frame hx0.size fun b hb => hx0.block b (hlt b hb) (by simp)
  generalize hE : CS.map CV.toDV = E at *
  have hEl : E.length = len * sz := by rw [← hE]; simpa using hlf
  have hgoal : Rd true (w.alloc (.cells cells' e)) [.slice (some ⟨w.heap.size, 0, none⟩) len len] [.sl sz E] (w.heap.size :: φ none) := by
    have := Rd.sl (o := true) (w := w.alloc (.cells cells' e)) (b := w.heap.size) (off := 0) (n := len) (cap := len) (sz := sz)
      (us := cells'.toList) (es := E) (bs1 := φ none) (vs := []) (ds := []) (bs2 := [])
      (fun k v hv => by
        simp only [World.cell?, heap_alloc_self, Nat.zero_add]
        simpa using hv)
      (fun _ => ⟨_, e, heap_alloc_self w _, by omega⟩) (by omega) hEl ⟨hpos, Nat.le_refl _⟩ hrd' .nil
    simpa using this
  have hr := k2.refly (hx0.mono (by simp)) (v := .slice (some ⟨w.heap.size, 0, none⟩) len len) (ψ := w.heap.size :: φ none) (x := .one (.cell (.own (.sl sz E)))) (List.nodup_cons.2 ⟨fun hm => Nat.lt_irrefl _ (hlt _ hm), k2.nd none⟩) (fun b hb => by
    rcases List.mem_cons.1 hb with rfl | hb
    · exact ⟨by omega, .inr (Nat.le_refl _)⟩
    · exact ⟨by have := hlt b hb; omega, .inl hb⟩) hgoal
  have hy : Yields P (.buildSlice t len ps) ty (Act.eval ⟨ts, ds⟩) w (.slice (some ⟨w.heap.size, 0, none⟩) len len) (w.alloc (.cells cells' e)) :=
    fun dst pos after guard => .inl (by
      simp only [execOp]
      rw [Sem.run_bind, hrun _ (by simp)]
      rfl)
  exact ⟨_, _, _, hy, hr⟩

theorem buildSlice_sound (hT : TbOk P tb) (h : RelW φ w0 F0 sl fx ts fv w) {t ty : TypeId} {len : Nat} {ps : Array (Nat × Operand)} {cs : List Prop} {x : SV} {sl' : Sl}
    (hx : opV tb sl ty (.buildSlice t len ps) = some (cs, x, sl')) : Sound P w0 F0 ts ds w (.buildSlice t len ps) ty x sl' := by
  simp only [opV] at hx
  split at hx
  · rename_i e hk
    split at hx
    · rename_i hc
      simp only [Bool.and_eq_true] at hc
      have hpos : 0 < (tb e).size := Nat.le_of_ble_eq_true hc.1
      have hsm : len * (tb e).size ≤ 16777216 := Nat.le_of_ble_eq_true hc.2
      split at hx
      · rename_i r ht
        split at hx
        · rename_i hfit
          have hke := not_other hT hpos
          obtain ⟨hz1, hz2, -⟩ := info_zero hT hke
          have hzl : ((List.replicate len (tb e).zero).flatten).length = len * (tb e).size := by simp [List.length_flatten, hz2]
          obtain ⟨cells', φ1, k1, k2⟩ := parts_fill (ds := ds) (r := r.1) (sl' := r.2) h ht (zs := (List.replicate len (tb e).zero).flatten) (cells := ((List.replicate len ((tb e).zero.map zeroV)).flatten).toArray)
            (fun φ => by simpa using CVs.zeroRow hz1 len) hzl
          have hlf : (fillC (List.replicate len (tb e).zero).flatten r.1).length = len * (tb e).size := by
            have : ∀ (r : List (Nat × List CV)) (cs : List CV), (fillC cs r).length = cs.length := by
              intro r
              induction r with
              | nil => intro cs; rfl
              | cons p r ih => intro cs; obtain ⟨o, new⟩ := p; simp only [fillC]; rw [ih, setRange_length]
            rw [this, hzl]
          have hrun := fun (parts : Array (Nat × Value)) (hps : parts.toList = ps.toList.map (fun p => (p.1, Act.eval ⟨ts, ds⟩ p.2))) => buildSlice_run (w := w) (parts := parts) (cells := cells') hT hk hpos hsm (fun z0 hz0 => by
            rw [← k1]
            have : z0 = ((List.replicate len ((tb e).zero.map zeroV)).flatten).toArray := by apply Array.ext'; simpa using hz0
            rw [this, hps])
          clear k1 ht
          generalize fillC (List.replicate len (tb e).zero).flatten r.1 = CS at *
          generalize r.2 = sl2 at *
          simp only [Option.some.injEq, Prod.mk.injEq] at hx
          obtain ⟨-, rfl, rfl⟩ := hx
          exact buildRow_sound k2 hfit hlf hpos hrun
        · cases hx
      · cases hx
    · cases hx
  · cases hx

theorem allTmps_eq {f : Operand → Value} {ts : Array Value} (hf : ∀ t, f (.tmp t) = valAt ts t) : ∀ {os : List Operand} {ss : List Nat}, allTmps os = some ss → os.map f = ss.map (valAt ts)
  | [], ss, h => by cases h; rfl
  | .tmp t :: os, ss, h => by
    simp only [allTmps, Option.map_eq_some_iff] at h
    obtain ⟨r, h1, rfl⟩ := h
    simp only [List.map_cons, hf, allTmps_eq hf h1]
  | .const _ :: _, ss, h => by cases h
  | .func _ :: _, ss, h => by cases h
  | .global _ :: _, ss, h => by cases h

theorem makeFunc_sound (h : RelW φ w0 F0 sl fx ts fv w) {ty : TypeId} {fn : Fn} {a b : Array Operand} {cs : List Prop} {x : SV} {sl' : Sl}
    (hx : opV tb sl ty (.makeFunc fn a b) = some (cs, x, sl')) : Sound P w0 F0 ts ds w (.makeFunc fn a b) ty x sl' := by
  simp only [opV] at hx
  split at hx
  · rename_i f ss ha hss
    cases hx
    have ha' : a = #[] := by apply Array.ext'; simpa using ha
    subst ha'
    refine ⟨_, w, _, yields_val (s := Instr.makeFunc (.func f) (#[].map (Act.eval ⟨ts, ds⟩)) (b.map (Act.eval ⟨ts, ds⟩))) (fun _ _ _ _ => rfl) (by simp [Instr.makeFunc]; rfl), h.see (x := .cloS f ss) ⟨rfl, b.map (Act.eval ⟨ts, ds⟩), ?_, ?_⟩⟩
    · simp
    · simpa using allTmps_eq (f := Act.eval ⟨ts, ds⟩) (fun t => rfl) hss
  · cases hx

theorem nilEq_sound (hT : TbOk P tb) (h : RelW φ w0 F0 sl fx ts fv w) {op : BinOp} {t ty yt : TypeId} {x y : Operand} {v : SV} {sz : Nat} {es : List DV}
    (hn : nilB op (tb t).k y = true) (hv : opView tb ty sl x = some v) (hd : sliceD v = some (.sl sz es)) : Sound P w0 F0 ts ds w (.binOp op t x y yt) ty (.one (.cell (.nb es))) sl := by
  unfold nilB at hn
  split at hn
  · rename_i e hk
    have hu : P.underlying t = some (.slice e) := (tiOf hT hk).2.2.2.2.1
    have hf : flat v = true := by
      unfold sliceD at hd
      split at hd <;> first | rfl | cases hd
    obtain ⟨o, bs, h3⟩ := sliceD_rel' hd (opView_rel (ds := ds) h hv hf)
    have run : ∀ a l c, (do eqGuard .eql t x (.const (.slice none 0 0)) (.slice a l c) (.slice none 0 0); binOp .eql t (.slice a l c) (.slice none 0 0) : Sem Value).run P w = .ok (.bool a.isNone) w := fun a l c => by
      have hb : (binOp .eql t (.slice a l c) (.slice none 0 0)).run P w = .ok (.bool a.isNone) w := by
        show ((do pure (.bool (← Op.equal t (.slice a l c) (.slice none 0 0))) : Sem Value)).run P w = _
        rw [Sem.run_bind, run_equal_slice_nil w t e a l c hu]
        rfl
      have hg : (eqGuard .eql t x (.const (.slice none 0 0)) (.slice a l c) (.slice none 0 0)).run P w = .ok () w := rfl
      rw [Sem.run_bind, hg]
      exact hb
    have key : ∃ b : Bool, (b = true → es = []) ∧ (do eqGuard .eql t x (.const (.slice none 0 0)) (Act.eval ⟨ts, ds⟩ x) (.slice none 0 0); binOp .eql t (Act.eval ⟨ts, ds⟩ x) (.slice none 0 0) : Sem Value).run P w = .ok (.bool b) w := by
      generalize Act.eval ⟨ts, ds⟩ x = u at h3
      rcases h3.one with ⟨a, cap, rfl, rfl, -⟩ | ⟨b, off, n, cap, us, bs1, rfl, -, -, -, -, -, -, -, -⟩
      · exact ⟨_, fun _ => rfl, run _ _ _⟩
      · exact ⟨_, (fun e => by cases e), run _ _ _⟩
    obtain ⟨b, hb, hrun⟩ := key
    exact ⟨.bool b, w, _, yields_val (fun _ _ _ _ => rfl) hrun, h.see (x := .one (.cell (.nb es))) ⟨rfl, b, rfl, hb⟩⟩
  · cases hn
end
end Go.Proofs.Ytckcehmggdnliaa.DL
