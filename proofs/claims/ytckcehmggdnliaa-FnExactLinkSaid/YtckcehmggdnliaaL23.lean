/- The data level, part 23: results; a function's contract. -/
import Derived.Test.YtckcehmggdnliaaL22
namespace Go.Proofs.Ytckcehmggdnliaa.DL
open Go Go.RowKit

section
variable {P : Program} {C : Cfg} {tb : Tb} {φ : Option Nat → List Nat} {w0 w w' : World} {F0 : List Nat} {sl : Sl} {fx : SV} {ts : Array Value} {fv : Value} {ds : List Deferred}

def resRun (ts : Array Value) : ResultVar → Sem Value
  | .tmp t => pure (ts.getD t undef)
  | .cell a t => do loadVar t (← asAddr (ts.getD a undef))

theorem resV_sound (hT : TbOk P tb) {xs : List RV} {vs : Array Value} (h : RelW φ w0 F0 sl (.tup xs) ts (.tuple vs) w) (hx : ∀ x ∈ xs, x.roots = []) {r : ResultVar} {x : RV} {sl' : Sl} (hr : resV tb sl r = some (x, sl')) :
    ∃ v φ', (resRun ts r).run P w = .ok v w ∧ RelW φ' w0 F0 sl' (.tup (xs ++ [x])) ts (.tuple (vs.push v)) w ∧ x.roots = [] := by
  cases r with
  | tmp t =>
    simp only [resV] at hr
    have hg := gt_rel h t
    split at hr
    · rename_i s e
      rw [e] at hg
      obtain ⟨-, h1⟩ := hg
      have h1 : some (valAt ts s) = some (valAt ts t) := h1
      split at hr
      · rename_i d' e'
        cases hr
        have hs := gt_rel h s
        rw [e'] at hs
        obtain ⟨φ', h2⟩ := h.join hx s (x := .cell (.own d')) (List.Sublist.refl _) hs rfl
        refine ⟨valAt ts s, φ', ?_, h2, rfl⟩
        show Result.ok (valAt ts t) w = _
        rw [Option.some.inj h1]
      · cases hr
    · rename_i r e
      split at hr
      · rename_i hro
        cases hr
        rw [‹gt sl t = _›] at hg
        obtain ⟨φ', h2⟩ := h.join hx t (x := x) (List.Sublist.refl _) hg (by simpa using hro)
        exact ⟨valAt ts t, φ', rfl, h2, by simpa using hro⟩
      · cases hr
    · cases hr
  | cell a ty =>
    simp only [resV] at hr
    split at hr
    · rename_i cs e
      split at hr
      · rename_i hc
        simp only [Bool.and_eq_true, beq_iff_eq] at hc
        simp only [Option.map_eq_some_iff, Prod.mk.injEq] at hr
        obtain ⟨r, h1, rfl, rfl⟩ := hr
        have hg := gt_rel h a
        rw [e] at hg
        obtain ⟨-, b, c, el, ψs, g1, g2, g3, g4⟩ := hg
        obtain ⟨v, k1, k2⟩ := var_run (tb := tb) (t := ty) (b := b) (o := 0) hT (g3.len.trans hc.2) (fun j u hj => by
          have : w.cell? ⟨b, 0 + j, none⟩ = c[j]? := by simp [World.cell?, g2]
          rw [this]; simpa using hj) g3 h1
        have hroots : r.roots = [] := by
          have hf : cs.flatMap CV.roots = [] := by simpa using hc.1
          unfold wrapCs at h1
          split at h1
          · cases h1; exact hf
          · cases h1; exact hf
          · cases h1
          · split at h1
            · cases h1; simpa [RV.roots] using hf
            · cases h1
        obtain ⟨φ', h2⟩ := h.join hx a (x := r) (ψ := ψs) (by rw [g4]; exact List.sublist_cons_self ..) k2 hroots
        refine ⟨v, φ', ?_, h2, hroots⟩
        have : ts.getD a undef = .pointer (some ⟨b, 0, none⟩) := g1
        simp only [resRun, this, asAddr, Sem.run_bind, Sem.run_pure, Result.andThen_ok]
        exact k1
      · cases hr
    · cases hr

theorem resVs_sound (hT : TbOk P tb) : ∀ (rs : List ResultVar) {φ : Option Nat → List Nat} {sl : Sl} {xs : List RV} {vs : Array Value} {ys : List RV} {sl' : Sl}, RelW φ w0 F0 sl (.tup xs) ts (.tuple vs) w → (∀ x ∈ xs, x.roots = []) →
    resVs tb sl rs = some (ys, sl') → ∃ us φ', (rs.mapM (resRun ts)).run P w = .ok us w ∧ us.length = ys.length ∧ RelW φ' w0 F0 sl' (.tup (xs ++ ys)) ts (.tuple (vs ++ us.toArray)) w ∧ ∀ x ∈ xs ++ ys, x.roots = []
  | [], φ, sl, xs, vs, ys, sl', h, hx, hr => by
    simp only [resVs, Option.some.injEq, Prod.mk.injEq] at hr
    obtain ⟨rfl, rfl⟩ := hr
    exact ⟨[], φ, by simp, rfl, by simpa using h, by simpa using hx⟩
  | r :: rs, φ, sl, xs, vs, ys, sl', h, hx, hr => by
    simp only [resVs] at hr
    split at hr
    · rename_i x sl1 h1
      split at hr
      · rename_i ys1 sl2 h2
        cases hr
        obtain ⟨v, φ1, k1, k2, k3⟩ := resV_sound hT h hx h1
        obtain ⟨us, φ2, g1, g2, g3, g4⟩ := resVs_sound hT rs k2 (fun y hy => by
          rcases List.mem_append.1 hy with hy | hy
          · exact hx y hy
          · have : y = x := by simpa using hy
            subst this; exact k3) h2
        refine ⟨v :: us, φ2, ?_, by simp [g2], by simpa using g3, by simpa using g4⟩
        simp only [List.mapM_cons, Sem.run_bind, k1, g1, Result.andThen_ok, Sem.run_pure]
      · cases hr
    · cases hr

theorem backCs_rel {f : Nat → Value} {d : Nat} : ∀ (cs : List CV) (k : Nat) {us vbs : List Value} {bs ys : List CV} {ψ0 ψs : List Nat}, CVs w φ f us cs ψ0 → CVs w φ f vbs bs ψs → backCs d k cs bs = some ys →
    (∀ (j : Nat) (v : Value), hdr w (φ (some d)) (f d) [k + j] = some v → vbs[j]? = some v) → ∃ χ : List Nat, χ.Sublist ψs ∧ ∀ (φ2 : Option Nat → List Nat) (g : Nat → Value), CVs w φ2 g us ys χ
  | [], k, us, vbs, bs, ys, ψ0, ψs, h, hb, hk, _ => by
    cases h
    simp only [backCs, Option.some.injEq] at hk
    subst hk
    exact ⟨[], List.nil_sublist _, fun _ _ => .nil⟩
  | c :: cs, k, us, vbs, bs, ys, ψ0, ψs, h, hb, hk, hh => by
    cases hb with
    | nil => simp [backCs] at hk
    | @cons vb b ψb vbs bs ψs hb1 hb2 =>
    cases h with
    | @cons u _ ψx us _ ψxs hx1 hx2 =>
    simp only [backCs] at hk
    split at hk
    · rename_i y ys1 e1 e2
      simp only [Option.some.injEq] at hk
      subst hk
      obtain ⟨χ, k1, k2⟩ := backCs_rel cs (k + 1) hx2 hb2 e2 fun j v hj => by
        have := hh (j + 1) v (by rwa [show k + (j + 1) = k + 1 + j by omega])
        simpa using this
      split at e1
      · simp only [Option.some.injEq] at e1
        subst e1
        exact ⟨χ, k1.trans (List.sublist_append_right ..), fun φ2 g => .cons (ψ := []) ⟨hx1.1, hx1.2.1, rfl⟩ (k2 φ2 g)⟩
      · split at e1
        · rename_i hc
          simp only [Bool.and_eq_true, beq_iff_eq] at hc
          obtain ⟨rfl, rfl⟩ := hc
          simp only [Option.some.injEq] at e1
          subst e1
          have hv := hh 0 u (by simpa using hx1.2)
          simp only [List.getElem?_cons_zero, Option.some.injEq] at hv
          subst hv
          exact ⟨ψb ++ χ, (List.Sublist.refl _).append k1, fun φ2 g => .cons hb1 (k2 φ2 g)⟩
        · cases e1
      · cases e1
    · cases hk
/-- What was put into a box to be written through is taken out of it. -/
theorem outSl_rel {xs : List RV} (h : RelW φ w0 F0 sl (.tup xs) ts fv w) (hx : ∀ x ∈ xs, x.roots = []) (pin : List Nat) : ∃ φ', RelW φ' w0 F0 (outSl pin sl) (.tup xs) ts fv w := by
  unfold outSl
  split
  · rename_i t
    split
    · rename_i cs e
      split
      · rename_i d r _
        split
        · rename_i bs ed
          split
          · rename_i ys hb
            have hg := gt_rel h t
            rw [e] at hg
            obtain ⟨us, hv, hcs⟩ := hg
            have hd := gt_rel h d
            rw [ed] at hd
            obtain ⟨-, b, c, el, ψs, g1, g2, g3, g4⟩ := hd
            obtain ⟨χ, k1, k2⟩ := backCs_rel cs 0 hcs g3 hb fun j v hj => by
              rw [g1] at hj
              simp only [hdr, locOf] at hj
              rw [if_pos (by rw [g4]; exact List.mem_cons_self ..)] at hj
              have e4 : w.cell? ⟨b, 0 + (0 + j), none⟩ = c.toList[j]? := by simp [World.cell?, g2]
              rw [e4] at hj
              simpa [Option.bind_eq_some_iff] using hj
            have hdt : d ≠ t := fun e' => by rw [e', e] at ed; cases ed
            have sub : ∀ b' ∈ χ, b' ∈ φ (some d) := fun b' hb' => by rw [g4]; exact List.mem_cons_of_mem _ (k1.subset hb')
            have hnd : χ.Nodup := by
              have := h.nd (some d)
              rw [g4] at this
              exact k1.nodup (List.nodup_cons.1 this).2
            refine ⟨fun s => if s = some t then χ else if s = none then φ none else [], by simp [h.len], fun s x hx' => ?_, fun s => ?_, fun s s' hne b' hb' hb2 => ?_, fun s b' hb' => ?_, h.ext⟩
            · cases s with
              | none =>
                cases hx'
                have hr := h.slot none _ rfl
                have : SlotRel w (fun s => if s = some t then χ else if s = none then φ none else []) (valAt ts) (vget ts fv none) (φ none) (.tup xs) :=
                  hr.kept ⟨Nat.le_refl _, fun _ _ => rfl, fun r hr => (by
                    have : (SV.tup xs).roots = [] := List.flatMap_eq_nil_iff.2 hx
                    rw [this] at hr; cases hr), fun b' _ hf => ⟨rfl, fun s hs => by
                    split at hs
                    · exact hf _ (sub _ hs)
                    · split at hs
                      · exact hf _ hs
                      · cases hs⟩⟩
                simpa using this
              | some s =>
                simp only [sget] at hx'
                by_cases es : s = t
                · subst es
                  rw [List.getElem?_set] at hx'
                  simp only [if_true] at hx'
                  split at hx'
                  · cases hx'
                    simp only [vget, if_true]
                    exact ⟨us, hv, k2 _ _⟩
                  · cases hx'
                · rw [List.getElem?_set_ne (Ne.symm es), List.getElem?_map] at hx'
                  cases hz : sl[s]? with
                  | none => simp [hz] at hx'
                  | some z =>
                    simp only [hz, Option.map_some, Option.some.injEq] at hx'
                    subst hx'
                    exact trivial
            · split
              · exact hnd
              · split
                · exact h.nd _
                · exact .nil
            · split at hb'
              · split at hb2
                · rename_i e1 e2; exact hne (e1.trans e2.symm)
                · split at hb2
                  · exact h.dj (some d) none (by simp) b' (sub b' hb') hb2
                  · cases hb2
              · split at hb'
                · split at hb2
                  · exact h.dj none (some d) (by simp) b' hb' (sub b' hb2)
                  · split at hb2
                    · rename_i e1 _ e2; exact hne (e1.trans e2.symm)
                    · cases hb2
                · cases hb'
            · split at hb'
              · exact h.lt (some d) b' (sub b' hb')
              · split at hb'
                · exact h.lt none b' hb'
                · cases hb'
          · exact ⟨φ, h⟩
        · exact ⟨φ, h⟩
      · exact ⟨φ, h⟩
    · exact ⟨φ, h⟩
  · exact ⟨φ, h⟩

theorem outArgs_at {pin : List Nat} : ∀ (n i : Nat) (sl : Sl), (outArgs pin n i sl).length = n ∧ ∀ j x, (outArgs pin n i sl)[j]? = some x → x = .dead ∨ (i + j ∈ pin ∧ x = gt sl (i + j) ∧ x.roots = [])
  | 0, i, sl => ⟨rfl, fun j x h => by simp [outArgs] at h⟩
  | n + 1, i, sl => by
    obtain ⟨h1, h2⟩ := outArgs_at (pin := pin) n (i + 1) sl
    refine ⟨by simp [outArgs, h1], fun j x h => ?_⟩
    cases j with
    | zero =>
      simp only [outArgs, List.getElem?_cons_zero, Option.some.injEq] at h
      subst h
      split
      · rename_i hc
        simp only [Bool.and_eq_true] at hc
        exact .inr ⟨by simpa using hc.1, rfl, by simpa using hc.2⟩
      · exact .inl rfl
    | succ j =>
      have := h2 j x (by simpa [outArgs] using h)
      rwa [show i + 1 + j = i + (j + 1) by omega] at this

/-- A FUNCTION'S CONTRACT, FROM ITS CODE. -/
theorem callD_of_dwp (hT : TbOk P C.tb) (hm : P.follows .mixedOrders = true) {f : FuncId} {fn : Func} {code : Code} {args : List SV} {post : SV → List SV → Prop} (hf : P.funcs[f]? = some fn)
    (hb : fn.body = some code) (hn : (fn.name == "runtime.NumGoroutine") = false) (hpin : ∀ t ∈ C.pin, t < args.length)
    (hk : dwp P C code (retK C fn.results.toList args.length post) (args ++ List.replicate (fn.ntmps - args.length) .und)) : CallD P f args post := by
  refine ⟨⟨fn, hf, hn, by rw [hb]; rfl⟩, fun w vs φ hr h0 => ?_⟩
  generalize hF : ((List.range args.length).flatMap fun t => φ (some t)) = F0 at *
  have hsz := hr.len
  refine calls_of_wp hf hb ?_
  generalize hts0 : vs ++ Array.replicate (fn.ntmps - vs.size) undef = ts0
  have lo : ∀ t, t < vs.size → valAt ts0 t = valAt vs t := fun t ht => by
    rw [← hts0]; simp [valAt, Array.getElem?_append_left ht, ht]
  have hi : ∀ t, vs.size ≤ t → valAt ts0 t = undef := fun t ht => by
    rw [← hts0]
    simp only [valAt, Array.getD_eq_getD_getElem?, Array.getElem?_append_right ht, Array.getElem?_replicate]
    split <;> rfl
  have hstart : RelW φ w F0 (args ++ List.replicate (fn.ntmps - args.length) .und) .dead ts0 undef w := by
    refine ⟨by rw [← hts0]; simp [hsz], fun t x hx => ?_, hr.nd, hr.dj, hr.lt, hr.ext⟩
    cases t with
    | none => cases hx; exact trivial
    | some t =>
      simp only [sget] at hx
      rcases Nat.lt_or_ge t args.length with ht | ht
      · rw [List.getElem?_append_left ht] at hx
        have := hr.slot (some t) x hx
        have ef : valAt ts0 = valAt vs := funext fun r => by
          rcases Nat.lt_or_ge r vs.size with h' | h'
          · exact lo r h'
          · rw [hi r h']; simp [valAt, h']
        show SlotRel w φ (valAt ts0) (valAt ts0 t) _ x
        rw [ef]; exact this
      · rw [List.getElem?_append_right ht, List.getElem?_replicate] at hx
        split at hx
        · cases hx; exact hi t (by omega)
        · cases hx
  refine dwp_sound (w0 := w) (F0 := F0) (ts0 := ts0) hT hm code _ _ _ ⟨ts0, []⟩ w hk ⟨φ, .dead, undef, hstart, rfl, rfl, fun _ _ => rfl⟩ fun e sl' hq a' w' hst => ?_
  have fin : (match resVs C.tb sl' fn.results.toList with
      | some (xs, sl') => forceS (tupR xs) fun r => forceL (outArgs C.pin args.length 0 (outSl C.pin sl')) fun as => post r as
      | none => False) → a'.defers = [] ∧ ∃ v, (results fn a'.tmps).run P w' = .ok v w' ∧ ∃ v' r args' φ', Ending.returned v = .returned v' ∧ post r args' ∧ r.roots = [] ∧ RelW φ' w F0 args' r vs v' w' := fun hq => by
    obtain ⟨φ1, fx, fv, h1, h2, h3⟩ := hst
    refine ⟨h2, ?_⟩
    split at hq
    · rename_i xs sl2 hxs
      rw [forceS_eq, forceL_eq] at hq
      obtain ⟨us, φ2, g1, g2, g3, g4⟩ := resVs_sound (xs := []) (vs := #[]) hT fn.results.toList (h1.see (x := .tup []) ⟨#[], rfl, .nil⟩) (fun x hx => by cases hx) hxs
      simp only [List.nil_append, Array.empty_append] at g3 g4
      obtain ⟨φ2, g3⟩ := outSl_rel g3 g4 C.pin
      have e : results fn a'.tmps = (do
          let vs ← fn.results.mapM (resRun a'.tmps)
          pure (if h : vs.size = 1 then vs[0] else .tuple vs)) := by
        unfold results
        refine congrArg (fun g : ResultVar → Sem Value => (do
          let vs ← fn.results.mapM g
          pure (if h : vs.size = 1 then vs[0] else .tuple vs) : Sem Value)) (funext fun x => ?_)
        cases x <;> rfl
      have hres : (results fn a'.tmps).run P w' = .ok (if h : us.toArray.size = 1 then us.toArray[0] else .tuple us.toArray) w' := by
        rw [e]
        have : fn.results = fn.results.toList.toArray := by simp
        rw [this, List.mapM_toArray]
        simp only [map_eq_pure_bind, Sem.run_bind, g1, Result.andThen_ok, Sem.run_pure]
      refine ⟨_, hres, _, tupR xs, outArgs C.pin args.length 0 (outSl C.pin sl2), φ2, rfl, hq, ?_, ?_⟩
      · have hall : ∀ x ∈ xs, x.roots = [] := g4
        unfold tupR
        split
        · exact hall _ (List.mem_cons_self ..)
        · show xs.flatMap RV.roots = []
          exact List.flatMap_eq_nil_iff.2 hall
      · have bare : ∀ χ, Kept w' φ2 (valAt a'.tmps) w' φ2 (valAt vs) χ [] := fun χ => ⟨Nat.le_refl _, fun _ _ => rfl, fun r hr => (by cases hr), fun b _ hf => ⟨rfl, hf⟩⟩
        obtain ⟨k1, k2⟩ := outArgs_at (pin := C.pin) args.length 0 (outSl C.pin sl2)
        refine ⟨by rw [k1]; exact hsz, fun t x hx => ?_, g3.nd, g3.dj, g3.lt, g3.ext⟩
        cases t with
        | none =>
          cases hx
          obtain ⟨vs', e1, e2⟩ := g3.slot none _ rfl
          have e1 : Value.tuple us.toArray = .tuple vs' := e1
          cases e1
          have e2 : RVs w' φ2 (valAt vs) us xs (φ2 none) := by
            refine RVs.kept (by simpa using e2) ((bare _).sub (fun _ h => h) fun r hr => ?_)
            rw [List.flatMap_eq_nil_iff.2 g4] at hr; cases hr
          show SlotRel w' φ2 (valAt vs) _ (φ2 none) (tupR xs)
          match xs, us, e2, g2 with
          | [], [], e2, _ => exact ⟨#[], rfl, e2⟩
          | [r], [u], e2, _ =>
            generalize hχ : φ2 none = χ at e2
            cases e2 with
            | cons h1 h2 => cases h2; simpa [tupR, SlotRel, vget] using h1
          | r1 :: r2 :: xs, u1 :: u2 :: us, e2, _ => exact ⟨(u1 :: u2 :: us).toArray, by simp [vget], e2⟩
        | some t =>
          rcases k2 t x hx with rfl | ⟨h4, h5, h6⟩
          · exact trivial
          · rw [Nat.zero_add] at h4 h5
            have hrel := gt_rel g3 t
            rw [← h5] at hrel
            have hval : valAt a'.tmps t = valAt vs t := by
              rw [h3.2 t h4]; exact lo t (by rw [hsz]; exact hpin t h4)
            show SlotRel w' φ2 (valAt vs) (valAt vs t) _ x
            rw [← hval]
            exact hrel.kept ((bare _).sub (fun _ h => h) fun r hr => by rw [h6] at hr; cases hr)
    · exact hq.elim
  cases e with
  | normal => exact fin hq
  | ret => exact fin hq
  | exit id => exact hq.elim
end
end Go.Proofs.Ytckcehmggdnliaa.DL
