/- The library: parts L23 to L25. -/
import Derived.Test.YtlffmhhdgedddaaL22
import Derived.ProofKit
import Derived.ChangeSame
/- The data level, part 23: results; a function's contract. -/
namespace Go.Proofs.Ytlffmhhdgedddaa.DL
open Go Go.RowKit

section
variable {P : Program} {C : Cfg} {tb : Tb} {φ : Option Nat → List Nat} {w0 w w' : World} {F0 : List Nat} {sl : Sl} {fx : SV} {ts : Array Value} {fv : Value} {ds : List Deferred}

def resRun (ts : Array Value) : ResultVar → Sem Value
  | .tmp t => pure (ts.getD t undef)
  | .cell a t => do loadVar t (← asAddr (ts.getD a undef))

theorem resV_sound (hT : TbOk P tb) {xs : List RV} {vs : Array Value} (h : RelW φ w0 F0 sl (.tup xs) ts (.tuple vs) w) (hx : ∀ x ∈ xs, x.roots = []) {r : ResultVar} {x : RV} {sl' : Sl} (hr : resV tb sl r = some (x, sl')) :
    ∃ v φ', (resRun ts r).run P w = .ok v w ∧ RelW φ' w0 F0 sl' (.tup (xs ++ [x])) ts (.tuple (vs.push v)) w ∧ x.roots = [] := by
  cases r with
  | tmp t =>
    simp only [resV] at hr
    have hg := gt_rel h t
    split at hr
    · rename_i s e
      rw [e] at hg
      obtain ⟨-, h1⟩ := hg
      have h1 : some (valAt ts s) = some (valAt ts t) := h1
      split at hr
      · rename_i d' e'
        cases hr
        have hs := gt_rel h s
        rw [e'] at hs
        obtain ⟨φ', h2⟩ := h.join hx s (x := .cell (.own d')) (List.Sublist.refl _) hs rfl
        refine ⟨valAt ts s, φ', ?_, h2, rfl⟩
        show Result.ok (valAt ts t) w = _
        rw [Option.some.inj h1]
      · cases hr
    · rename_i s j e
      rw [e] at hg
      obtain ⟨-, hh⟩ := hg
      split at hr
      · rename_i cs e'
        split at hr
        · rename_i d' ed
          cases hr
          have hs := gt_rel h s
          rw [e'] at hs
          obtain ⟨hroots, b0, c, el, ψs, h1, h2, h3, h4⟩ := hs
          obtain ⟨v, e1, ψ1, ψ2, ψ3, k1, k2, k3, rfl⟩ := h3.getSplit j ed
          have hv : valAt ts t = v := by
            rw [h1] at hh
            simp only [hdr, locOf] at hh
            split at hh
            · rename_i hb
              have e2 : w.cell? ⟨b0, 0 + j, none⟩ = some v := by
                simp only [World.cell?, h2]
                rw [Nat.zero_add]
                simpa using e1
              rw [e2] at hh
              simpa using hh.symm
            · cases hh
          obtain ⟨φ', h5⟩ := h.join hx s (v := v) (x := .cell (.own d')) (ψ := ψ2) (by rw [h4]; exact ((List.sublist_append_left ψ2 ψ3).trans (List.sublist_append_right ψ1 _)).trans (List.sublist_cons_self b0 _)) k2 rfl
          refine ⟨v, φ', ?_, h5, rfl⟩
          show Result.ok (valAt ts t) w = _
          rw [hv]
        · cases hr
      · cases hr
    · rename_i r e
      split at hr
      · rename_i hro
        cases hr
        rw [‹gt sl t = _›] at hg
        obtain ⟨φ', h2⟩ := h.join hx t (x := x) (List.Sublist.refl _) hg (by simpa using hro)
        exact ⟨valAt ts t, φ', rfl, h2, by simpa using hro⟩
      · cases hr
    · cases hr
  | cell a ty =>
    simp only [resV] at hr
    split at hr
    · rename_i cs e
      split at hr
      · rename_i hc
        simp only [Bool.and_eq_true, beq_iff_eq] at hc
        simp only [Option.map_eq_some_iff, Prod.mk.injEq] at hr
        obtain ⟨r, h1, rfl, rfl⟩ := hr
        have hg := gt_rel h a
        rw [e] at hg
        obtain ⟨-, b, c, el, ψs, g1, g2, g3, g4⟩ := hg
        obtain ⟨v, k1, k2⟩ := var_run (tb := tb) (t := ty) (b := b) (o := 0) hT (g3.len.trans hc.2) (fun j u hj => by
          have : w.cell? ⟨b, 0 + j, none⟩ = c[j]? := by simp [World.cell?, g2]
          rw [this]; simpa using hj) g3 h1
        have hroots : r.roots = [] := by
          have hf : cs.flatMap CV.roots = [] := by simpa using hc.1
          unfold wrapCs at h1
          split at h1
          · cases h1; exact hf
          · cases h1; exact hf
          · cases h1
          · split at h1
            · cases h1; simpa [RV.roots] using hf
            · cases h1
        obtain ⟨φ', h2⟩ := h.join hx a (x := r) (ψ := ψs) (by rw [g4]; exact List.sublist_cons_self ..) k2 hroots
        refine ⟨v, φ', ?_, h2, hroots⟩
        have : ts.getD a undef = .pointer (some ⟨b, 0, none⟩) := g1
        simp only [resRun, this, asAddr, Sem.run_bind, Sem.run_pure, Result.andThen_ok]
        exact k1
      · cases hr
    · cases hr

theorem resVs_sound (hT : TbOk P tb) : ∀ (rs : List ResultVar) {φ : Option Nat → List Nat} {sl : Sl} {xs : List RV} {vs : Array Value} {ys : List RV} {sl' : Sl}, RelW φ w0 F0 sl (.tup xs) ts (.tuple vs) w → (∀ x ∈ xs, x.roots = []) →
    resVs tb sl rs = some (ys, sl') → ∃ us φ', (rs.mapM (resRun ts)).run P w = .ok us w ∧ us.length = ys.length ∧ RelW φ' w0 F0 sl' (.tup (xs ++ ys)) ts (.tuple (vs ++ us.toArray)) w ∧ ∀ x ∈ xs ++ ys, x.roots = []
  | [], φ, sl, xs, vs, ys, sl', h, hx, hr => by
    simp only [resVs, Option.some.injEq, Prod.mk.injEq] at hr
    obtain ⟨rfl, rfl⟩ := hr
    exact ⟨[], φ, by simp, rfl, by simpa using h, by simpa using hx⟩
  | r :: rs, φ, sl, xs, vs, ys, sl', h, hx, hr => by
    simp only [resVs] at hr
    split at hr
    · rename_i x sl1 h1
      split at hr
      · rename_i ys1 sl2 h2
        cases hr
        obtain ⟨v, φ1, k1, k2, k3⟩ := resV_sound hT h hx h1
        obtain ⟨us, φ2, g1, g2, g3, g4⟩ := resVs_sound hT rs k2 (fun y hy => by
          rcases List.mem_append.1 hy with hy | hy
          · exact hx y hy
          · have : y = x := by simpa using hy
            subst this; exact k3) h2
        refine ⟨v :: us, φ2, ?_, by simp [g2], by simpa using g3, by simpa using g4⟩
        simp only [List.mapM_cons, Sem.run_bind, k1, g1, Result.andThen_ok, Sem.run_pure]
      · cases hr
    · cases hr

theorem backCs_rel {f : Nat → Value} {d : Nat} : ∀ (cs : List CV) (k : Nat) {us vbs : List Value} {bs ys : List CV} {ψ0 ψs : List Nat}, CVs w φ f us cs ψ0 → CVs w φ f vbs bs ψs → backCs d k cs bs = some ys →
    (∀ (j : Nat) (v : Value), hdr w (φ (some d)) (f d) [k + j] = some v → vbs[j]? = some v) → ∃ χ : List Nat, χ.Sublist ψs ∧ ∀ (φ2 : Option Nat → List Nat) (g : Nat → Value), CVs w φ2 g us ys χ
  | [], k, us, vbs, bs, ys, ψ0, ψs, h, hb, hk, _ => by
    cases h
    simp only [backCs, Option.some.injEq] at hk
    subst hk
    exact ⟨[], List.nil_sublist _, fun _ _ => .nil⟩
  | c :: cs, k, us, vbs, bs, ys, ψ0, ψs, h, hb, hk, hh => by
    cases hb with
    | nil => simp [backCs] at hk
    | @cons vb b ψb vbs bs ψs hb1 hb2 =>
    cases h with
    | @cons u _ ψx us _ ψxs hx1 hx2 =>
    simp only [backCs] at hk
    split at hk
    · rename_i y ys1 e1 e2
      simp only [Option.some.injEq] at hk
      subst hk
      obtain ⟨χ, k1, k2⟩ := backCs_rel cs (k + 1) hx2 hb2 e2 fun j v hj => by
        have := hh (j + 1) v (by rwa [show k + (j + 1) = k + 1 + j by omega])
        simpa using this
      split at e1
      · simp only [Option.some.injEq] at e1
        subst e1
        exact ⟨χ, k1.trans (List.sublist_append_right ..), fun φ2 g => .cons (ψ := []) ⟨hx1.1, hx1.2.1, rfl⟩ (k2 φ2 g)⟩
      · split at e1
        · rename_i hc
          simp only [Bool.and_eq_true, beq_iff_eq] at hc
          obtain ⟨rfl, rfl⟩ := hc
          simp only [Option.some.injEq] at e1
          subst e1
          have hv := hh 0 u (by simpa using hx1.2)
          simp only [List.getElem?_cons_zero, Option.some.injEq] at hv
          subst hv
          exact ⟨ψb ++ χ, (List.Sublist.refl _).append k1, fun φ2 g => .cons hb1 (k2 φ2 g)⟩
        · cases e1
      · cases e1
    · cases hk
/-- What was put into a box to be written through is taken out of it. -/
theorem outSl_rel {xs : List RV} (h : RelW φ w0 F0 sl (.tup xs) ts fv w) (hx : ∀ x ∈ xs, x.roots = []) (pin : List Nat) : ∃ φ', RelW φ' w0 F0 (outSl pin sl) (.tup xs) ts fv w := by
  unfold outSl
  split
  · rename_i t
    split
    · rename_i cs e
      split
      · rename_i d r _
        split
        · rename_i bs ed
          split
          · rename_i ys hb
            have hg := gt_rel h t
            rw [e] at hg
            obtain ⟨us, hv, hcs⟩ := hg
            have hd := gt_rel h d
            rw [ed] at hd
            obtain ⟨-, b, c, el, ψs, g1, g2, g3, g4⟩ := hd
            obtain ⟨χ, k1, k2⟩ := backCs_rel cs 0 hcs g3 hb fun j v hj => by
              rw [g1] at hj
              simp only [hdr, locOf] at hj
              rw [if_pos (by rw [g4]; exact List.mem_cons_self ..)] at hj
              have e4 : w.cell? ⟨b, 0 + (0 + j), none⟩ = c.toList[j]? := by simp [World.cell?, g2]
              rw [e4] at hj
              simpa [Option.bind_eq_some_iff] using hj
            have hdt : d ≠ t := fun e' => by rw [e', e] at ed; cases ed
            have sub : ∀ b' ∈ χ, b' ∈ φ (some d) := fun b' hb' => by rw [g4]; exact List.mem_cons_of_mem _ (k1.subset hb')
            have hnd : χ.Nodup := by
              have := h.nd (some d)
              rw [g4] at this
              exact k1.nodup (List.nodup_cons.1 this).2
            refine ⟨fun s => if s = some t then χ else if s = none then φ none else [], by simp [h.len], fun s x hx' => ?_, fun s => ?_, fun s s' hne b' hb' hb2 => ?_, fun s b' hb' => ?_, h.ext⟩
            · cases s with
              | none =>
                cases hx'
                have hr := h.slot none _ rfl
                have : SlotRel w (fun s => if s = some t then χ else if s = none then φ none else []) (valAt ts) (vget ts fv none) (φ none) (.tup xs) :=
                  hr.kept ⟨Nat.le_refl _, fun _ _ => rfl, fun r hr => (by
                    have : (SV.tup xs).roots = [] := List.flatMap_eq_nil_iff.2 hx
                    rw [this] at hr; cases hr), fun b' _ hf => ⟨rfl, fun s hs => by
                    split at hs
                    · exact hf _ (sub _ hs)
                    · split at hs
                      · exact hf _ hs
                      · cases hs⟩⟩
                simpa using this
              | some s =>
                simp only [sget] at hx'
                by_cases es : s = t
                · subst es
                  rw [List.getElem?_set] at hx'
                  simp only [if_true] at hx'
                  split at hx'
                  · cases hx'
                    simp only [vget, if_true]
                    exact ⟨us, hv, k2 _ _⟩
                  · cases hx'
                · rw [List.getElem?_set_ne (Ne.symm es), List.getElem?_map] at hx'
                  cases hz : sl[s]? with
                  | none => simp [hz] at hx'
                  | some z =>
                    simp only [hz, Option.map_some, Option.some.injEq] at hx'
                    subst hx'
                    exact trivial
            · split
              · exact hnd
              · split
                · exact h.nd _
                · exact .nil
            · split at hb'
              · split at hb2
                · rename_i e1 e2; exact hne (e1.trans e2.symm)
                · split at hb2
                  · exact h.dj (some d) none (by simp) b' (sub b' hb') hb2
                  · cases hb2
              · split at hb'
                · split at hb2
                  · exact h.dj none (some d) (by simp) b' hb' (sub b' hb2)
                  · split at hb2
                    · rename_i e1 _ e2; exact hne (e1.trans e2.symm)
                    · cases hb2
                · cases hb'
            · split at hb'
              · exact h.lt (some d) b' (sub b' hb')
              · split at hb'
                · exact h.lt none b' hb'
                · cases hb'
          · exact ⟨φ, h⟩
        · exact ⟨φ, h⟩
      · exact ⟨φ, h⟩
    · exact ⟨φ, h⟩
  · exact ⟨φ, h⟩

theorem outArgs_at {pin : List Nat} : ∀ (n i : Nat) (sl : Sl), (outArgs pin n i sl).length = n ∧ ∀ j x, (outArgs pin n i sl)[j]? = some x → x = .dead ∨ (i + j ∈ pin ∧ x = gt sl (i + j) ∧ x.roots = [])
  | 0, i, sl => ⟨rfl, fun j x h => by simp [outArgs] at h⟩
  | n + 1, i, sl => by
    obtain ⟨h1, h2⟩ := outArgs_at (pin := pin) n (i + 1) sl
    refine ⟨by simp [outArgs, h1], fun j x h => ?_⟩
    cases j with
    | zero =>
      simp only [outArgs, List.getElem?_cons_zero, Option.some.injEq] at h
      subst h
      split
      · rename_i hc
        simp only [Bool.and_eq_true] at hc
        exact .inr ⟨by simpa using hc.1, rfl, by simpa using hc.2⟩
      · exact .inl rfl
    | succ j =>
      have := h2 j x (by simpa [outArgs] using h)
      rwa [show i + 1 + j = i + (j + 1) by omega] at this

theorem kill_idR {d : Nat} {x : SV} (h : d ∉ x.roots) : killSV d x = x := by simp [killSV, h]
/-- A FUNCTION'S CONTRACT, FROM ITS CODE. -/
theorem callD_of_dwp (hT : TbOk P C.tb) (hm : P.follows .mixedOrders = true) {f : FuncId} {fn : Func} {code : Code} {args : List SV} {post : SV → List SV → Prop} (hf : P.funcs[f]? = some fn)
    (hb : fn.body = some code) (hn : (fn.name == "runtime.NumGoroutine") = false) (hpin : ∀ t ∈ C.pin, t < args.length)
    (hk : dwp P C code (retK C fn.results.toList args.length post) (args ++ List.replicate (fn.ntmps - args.length) .und)) : CallD P f args post := by
  refine ⟨⟨fn, hf, hn, by rw [hb]; rfl⟩, fun w vs φ hr h0 => ?_⟩
  generalize hF : ((List.range args.length).flatMap fun t => φ (some t)) = F0 at *
  have hsz := hr.len
  refine calls_of_wp hf hb ?_
  generalize hts0 : vs ++ Array.replicate (fn.ntmps - vs.size) undef = ts0
  have lo : ∀ t, t < vs.size → valAt ts0 t = valAt vs t := fun t ht => by
    rw [← hts0]; simp [valAt, Array.getElem?_append_left ht, ht]
  have hi : ∀ t, vs.size ≤ t → valAt ts0 t = undef := fun t ht => by
    rw [← hts0]
    simp only [valAt, Array.getD_eq_getD_getElem?, Array.getElem?_append_right ht, Array.getElem?_replicate]
    split <;> rfl
  have hstart : RelW φ w F0 (args ++ List.replicate (fn.ntmps - args.length) .und) .dead ts0 undef w := by
    refine ⟨by rw [← hts0]; simp [hsz], fun t x hx => ?_, hr.nd, hr.dj, hr.lt, hr.ext⟩
    cases t with
    | none => cases hx; exact trivial
    | some t =>
      simp only [sget] at hx
      rcases Nat.lt_or_ge t args.length with ht | ht
      · rw [List.getElem?_append_left ht] at hx
        have := hr.slot (some t) x hx
        have ef : valAt ts0 = valAt vs := funext fun r => by
          rcases Nat.lt_or_ge r vs.size with h' | h'
          · exact lo r h'
          · rw [hi r h']; simp [valAt, h']
        show SlotRel w φ (valAt ts0) (valAt ts0 t) _ x
        rw [ef]; exact this
      · rw [List.getElem?_append_right ht, List.getElem?_replicate] at hx
        split at hx
        · cases hx; exact hi t (by omega)
        · cases hx
  refine dwp_sound (w0 := w) (F0 := F0) (ts0 := ts0) hT hm code _ _ _ ⟨ts0, []⟩ w hk ⟨φ, .dead, undef, hstart, rfl, rfl, fun _ _ => rfl⟩ fun e sl' hq a' w' hst => ?_
  have fin : (match resVs C.tb sl' fn.results.toList with
      | some (xs, sl') => forceS (tupR xs) fun r => forceL (outArgs C.pin args.length 0 (outSl C.pin sl')) fun as => post r as
      | none => False) → a'.defers = [] ∧ ∃ v, (results fn a'.tmps).run P w' = .ok v w' ∧ ∃ v' r args' φ', Ending.returned v = .returned v' ∧ post r args' ∧ r.roots = [] ∧ RelW φ' w F0 args' r vs v' w' := fun hq => by
    obtain ⟨φ1, fx, fv, h1, h2, h3⟩ := hst
    refine ⟨h2, ?_⟩
    split at hq
    · rename_i xs sl2 hxs
      rw [forceS_eq, forceL_eq] at hq
      obtain ⟨us, φ2, g1, g2, g3, g4⟩ := resVs_sound (xs := []) (vs := #[]) hT fn.results.toList (h1.see (x := .tup []) ⟨#[], rfl, .nil⟩) (fun x hx => by cases hx) hxs
      simp only [List.nil_append, Array.empty_append] at g3 g4
      obtain ⟨φ2, g3⟩ := outSl_rel g3 g4 C.pin
      have e : results fn a'.tmps = (do
          let vs ← fn.results.mapM (resRun a'.tmps)
          pure (if h : vs.size = 1 then vs[0] else .tuple vs)) := by
        unfold results
        refine congrArg (fun g : ResultVar → Sem Value => (do
          let vs ← fn.results.mapM g
          pure (if h : vs.size = 1 then vs[0] else .tuple vs) : Sem Value)) (funext fun x => ?_)
        cases x <;> rfl
      have hres : (results fn a'.tmps).run P w' = .ok (if h : us.toArray.size = 1 then us.toArray[0] else .tuple us.toArray) w' := by
        rw [e]
        have : fn.results = fn.results.toList.toArray := by simp
        rw [this, List.mapM_toArray]
        simp only [map_eq_pure_bind, Sem.run_bind, g1, Result.andThen_ok, Sem.run_pure]
      refine ⟨_, hres, _, tupR xs, outArgs C.pin args.length 0 (outSl C.pin sl2), φ2, rfl, hq, ?_, ?_⟩
      · have hall : ∀ x ∈ xs, x.roots = [] := g4
        unfold tupR
        split
        · exact hall _ (List.mem_cons_self ..)
        · show xs.flatMap RV.roots = []
          exact List.flatMap_eq_nil_iff.2 hall
      · have bare : ∀ χ, Kept w' φ2 (valAt a'.tmps) w' φ2 (valAt vs) χ [] := fun χ => ⟨Nat.le_refl _, fun _ _ => rfl, fun r hr => (by cases hr), fun b _ hf => ⟨rfl, hf⟩⟩
        obtain ⟨k1, k2⟩ := outArgs_at (pin := C.pin) args.length 0 (outSl C.pin sl2)
        refine ⟨by rw [k1]; exact hsz, fun t x hx => ?_, g3.nd, g3.dj, g3.lt, g3.ext⟩
        cases t with
        | none =>
          cases hx
          obtain ⟨vs', e1, e2⟩ := g3.slot none _ rfl
          have e1 : Value.tuple us.toArray = .tuple vs' := e1
          cases e1
          have e2 : RVs w' φ2 (valAt vs) us xs (φ2 none) := by
            refine RVs.kept (by simpa using e2) ((bare _).sub (fun _ h => h) fun r hr => ?_)
            rw [List.flatMap_eq_nil_iff.2 g4] at hr; cases hr
          show SlotRel w' φ2 (valAt vs) _ (φ2 none) (tupR xs)
          match xs, us, e2, g2 with
          | [], [], e2, _ => exact ⟨#[], rfl, e2⟩
          | [r], [u], e2, _ =>
            generalize hχ : φ2 none = χ at e2
            cases e2 with
            | cons h1 h2 => cases h2; simpa [tupR, SlotRel, vget] using h1
          | r1 :: r2 :: xs, u1 :: u2 :: us, e2, _ => exact ⟨(u1 :: u2 :: us).toArray, by simp [vget], e2⟩
        | some t =>
          rcases k2 t x hx with rfl | ⟨h4, h5, h6⟩
          · exact trivial
          · rw [Nat.zero_add] at h4 h5
            have hrel := gt_rel g3 t
            rw [← h5] at hrel
            have hval : valAt a'.tmps t = valAt vs t := by
              rw [h3.2 t h4]; exact lo t (by rw [hsz]; exact hpin t h4)
            show SlotRel w' φ2 (valAt vs) (valAt vs t) _ x
            rw [← hval]
            exact hrel.kept ((bare _).sub (fun _ h => h) fun r hr => by rw [h6] at hr; cases hr)
    · exact hq.elim
  have fin2 : (match retBx sl' fn.results.toList with
      | some (t, cs) => forceL (outArgs C.pin args.length 0 (putT sl' t .dead)) fun as => post (.box cs) as
      | none => match resVs C.tb sl' fn.results.toList with
        | some (xs, sl') => forceS (tupR xs) fun r => forceL (outArgs C.pin args.length 0 (outSl C.pin sl')) fun as => post r as
        | none => False) → a'.defers = [] ∧ ∃ v, (results fn a'.tmps).run P w' = .ok v w' ∧ ∃ v' r args' φ', Ending.returned v = .returned v' ∧ post r args' ∧ r.roots = [] ∧ RelW φ' w F0 args' r vs v' w' := fun hq => by
    split at hq
    · rename_i t cs hbx
      obtain ⟨φ1, fx, fv, h1, h2, h3⟩ := hst
      refine ⟨h2, ?_⟩
      rw [forceL_eq] at hq
      obtain ⟨hrs, hgt, hroots⟩ : fn.results.toList = [.tmp t] ∧ gt sl' t = .box cs ∧ cs.flatMap CV.roots = [] := by
        unfold retBx at hbx
        split at hbx
        · rename_i t' hrs
          split at hbx
          · rename_i cs' hgt
            split at hbx
            · rename_i hr
              simp only [Option.some.injEq, Prod.mk.injEq] at hbx
              obtain ⟨rfl, rfl⟩ := hbx
              exact ⟨hrs, hgt, by simpa using hr⟩
            · cases hbx
          · cases hbx
        · cases hbx
      obtain ⟨φ2, g3⟩ := h1.take t
      have htk : takeT sl' t = (.box cs, putT sl' t .dead) := by
        unfold takeT
        rw [hgt]
        simp only [SV.isOwn, if_true]
        rw [kill_idR (by simp [SV.roots, hroots])]
      rw [htk] at g3
      have hres : (results fn a'.tmps).run P w' = .ok (valAt a'.tmps t) w' := by
        have : fn.results = [ResultVar.tmp t].toArray := by apply Array.ext'; simpa using hrs
        unfold results
        rw [this, List.mapM_toArray]
        simp only [List.mapM_cons, List.mapM_nil, map_eq_pure_bind, Sem.run_bind, Sem.run_pure, Result.andThen_ok]
        rfl
      refine ⟨_, hres, _, .box cs, outArgs C.pin args.length 0 (putT sl' t .dead), φ2, rfl, hq, hroots, ?_⟩
      have bare : ∀ χ, Kept w' φ2 (valAt a'.tmps) w' φ2 (valAt vs) χ [] := fun χ => ⟨Nat.le_refl _, fun _ _ => rfl, fun r hr => (by cases hr), fun b _ hf => ⟨rfl, hf⟩⟩
      obtain ⟨k1, k2⟩ := outArgs_at (pin := C.pin) args.length 0 (putT sl' t .dead)
      refine ⟨by rw [k1]; exact hsz, fun q x hx => ?_, g3.nd, g3.dj, g3.lt, g3.ext⟩
      cases q with
      | none =>
        cases hx
        exact (g3.slot none _ rfl).kept ((bare _).sub (fun _ h => h) fun r hr => by
          have : r ∈ cs.flatMap CV.roots := hr
          rw [hroots] at this; cases this)
      | some q =>
        rcases k2 q x hx with rfl | ⟨h4, h5, h6⟩
        · exact trivial
        · rw [Nat.zero_add] at h4 h5
          have hrel := gt_rel g3 q
          rw [← h5] at hrel
          have hval : valAt a'.tmps q = valAt vs q := by
            rw [h3.2 q h4]; exact lo q (by rw [hsz]; exact hpin q h4)
          show SlotRel w' φ2 (valAt vs) (valAt vs q) _ x
          rw [← hval]
          exact hrel.kept ((bare _).sub (fun _ h => h) fun r hr => by rw [h6] at hr; cases hr)
    · exact fin hq
  cases e with
  | normal => exact fin2 hq
  | ret => exact fin2 hq
  | exit id => exact hq.elim
end
end Go.Proofs.Ytlffmhhdgedddaa.DL

/- The data level, part 24: inputs read as data. -/
namespace Go.Proofs.Ytlffmhhdgedddaa.DL
open Go Go.RowKit

/-- The shape of a cell. -/
inductive Sh where
  | int (k : IntKind) | bool | str
  | sl (e : List Sh)

mutual
/-- Data of a shape. -/
inductive WT : Sh → DV → Prop
  | int {k : IntKind} {n : Int} : (Lit.int k n).wf = true → WT (.int k) (.val (.int k n))
  | bool {b : Bool} : WT .bool (.val (.bool b))
  | str {b : ByteArray} : b.size ≤ maxLen → WT .str (.val (.string b))
  | sl {e : List Sh} {rows : List (List DV)} : rows.length ≤ maxLen → (∀ r ∈ rows, WTs e r) → WT (.sl e) (.sl e.length rows.flatten)
inductive WTs : List Sh → List DV → Prop
  | nil : WTs [] []
  | cons {s : Sh} {d : DV} {ss : List Sh} {ds : List DV} : WT s d → WTs ss ds → WTs (s :: ss) (d :: ds)
end

theorem WTs.length {ss : List Sh} {ds : List DV} (h : WTs ss ds) : ds.length = ss.length := by
  cases h with
  | nil => rfl
  | cons _ h => simp [WTs.length h]
theorem WTs.append : ∀ {ss : List Sh} {ds : List DV} {ss' : List Sh} {ds' : List DV}, WTs ss ds → WTs ss' ds' → WTs (ss ++ ss') (ds ++ ds')
  | [], _, _, _, .nil, h => h
  | _ :: _, _, _, _, .cons h1 h2, h => .cons h1 (WTs.append h2 h)

/-- Fields lie one behind the other. -/
def Tile (P : Program) (sh : TypeId → Option (List Sh)) : List Field → Nat → List Sh → Prop
  | [], _, es => es = []
  | f :: fs, off, es => f.offset = off ∧ ∃ e1 e2, sh f.type = some e1 ∧ P.cellsOf f.type = e1.length ∧ es = e1 ++ e2 ∧ Tile P sh fs (off + e1.length) e2
def ShOk (P : Program) (sh : TypeId → Option (List Sh)) : Prop := ∀ t es, sh t = some es →
  match P.underlying t with
  | some .bool => es = [.bool]
  | some (.int k) => es = [.int k]
  | some .string => es = [.str]
  | some (.slice e) => ∃ e1, sh e = some e1 ∧ es = [.sl e1] ∧ P.cellsOf e = e1.length ∧ 0 < e1.length
  | some (.struct fs) => P.cellsOf t = es.length ∧ Tile P sh fs.toList 0 es
  | _ => False

section
variable {H : Type} {enc : TypeId × Value → H} {P : Program} {w : World} {sh : TypeId → Option (List Sh)}

/-- Elements one behind the other. -/
theorem elems_rd {b sz : Nat} : ∀ (n : Nat) (rows : Nat → List Value) (dss : Nat → List DV) (bss : Nat → List Nat) (o : Nat), (∀ i, i < n → (rows i).length = sz ∧ w.rangeAt b (o + i * sz) (rows i) ∧ Rd false w (rows i) (dss i) (bss i)) →
    ∃ us bs, us.length = n * sz ∧ w.rangeAt b o us ∧ Rd false w us ((List.range n).map dss).flatten bs
  | 0, rows, dss, bss, o, _ => ⟨[], [], by simp, fun j v h => by simp at h, .nil⟩
  | n + 1, rows, dss, bss, o, h => by
    obtain ⟨us, bs, h1, h2, h3⟩ := elems_rd n rows dss bss o fun i hi => h i (by omega)
    obtain ⟨g1, g2, g3⟩ := h n (by omega)
    refine ⟨us ++ rows n, bs ++ bss n, by rw [List.length_append, h1, g1, Nat.succ_mul], fun j v hj => ?_, ?_⟩
    · rcases Nat.lt_or_ge j us.length with hlt | hge
      · rw [List.getElem?_append_left hlt] at hj
        exact h2 j v hj
      · rw [List.getElem?_append_right hge] at hj
        have := g2 _ v hj
        rwa [h1, show o + n * sz + (j - n * sz) = o + j by omega] at this
    · rw [List.range_succ, List.map_append, List.flatten_append]
      simpa using h3.append g3

theorem trod_rd (hs : ShOk P sh) : ∀ (fuel : Nat) (t : TypeId) (es : List Sh) (cs : List Value) (d : DataW H) (ps : List MemPlace), sh t = some es → DataW.trod enc P w 0 (fun _ => true) true fuel t cs = some (d, ps) →
    ∃ ds bs, Rd false w cs ds bs ∧ WTs es ds := by
  intro fuel
  induction fuel with
  | zero => intro t es cs d ps _ h; simp [DataW.trod] at h
  | succ fuel ih =>
    intro t es cs d ps ht h
    have hsh := hs t es ht
    cases hu : P.underlying t with
    | none => rw [hu] at hsh; exact hsh.elim
    | some u =>
      rw [hu] at hsh
      cases u with
      | bool =>
        obtain ⟨b, rfl, -⟩ := DataW.trod_bool hu h
        subst hsh
        exact ⟨[.val (.bool b)], [], .sc rfl .nil, .cons .bool .nil⟩
      | int k =>
        obtain ⟨n, rfl, -, hw⟩ := DataW.trod_int hu h
        subst hsh
        exact ⟨[.val (.int k n)], [], .sc rfl .nil, .cons (.int hw) .nil⟩
      | string =>
        obtain ⟨b, rfl, -, hw⟩ := DataW.trod_string hu h
        subst hsh
        exact ⟨[.val (.string b)], [], .sc rfl .nil, .cons (.str hw) .nil⟩
      | slice e =>
        obtain ⟨e1, g1, rfl, g2, g3⟩ := hsh
        rcases DataW.trod_slice hu h with ⟨rfl, -⟩ | ⟨a, len, cap, elems, rest, n, hn, rfl, -, -, hlc, hcm, hel, hat, -, -⟩
        · exact ⟨[.sl e1.length []], [], .e0 (fun _ => rfl) .nil, .cons (WT.sl (rows := []) (Nat.zero_le _) fun r hr => by cases hr) .nil⟩
        · have hn : fuel = n := by omega
          subst hn
          have each : ∀ i, i < len → ∃ (r : List Value) (ds : List DV) (bs : List Nat), w.cells? 0 (a.add (i * e1.length)) e1.length = some r ∧ Rd false w r ds bs ∧ WTs e1 ds := fun i hi => by
            have h1 := hat i hi
            have h2 : i < elems.length := by omega
            rw [List.getElem?_eq_getElem h2, g2] at h1
            simp only [Option.bind_eq_some_iff] at h1
            obtain ⟨r, h3, h4⟩ := h1
            obtain ⟨ds, bs, h5, h6⟩ := ih e e1 r elems[i].1 elems[i].2 g1 h4
            exact ⟨r, ds, bs, h3, h5, h6⟩
          cases len with
          | zero => exact ⟨[.sl e1.length []], [], .e0 (fun h => by cases h) .nil, .cons (WT.sl (rows := []) (Nat.zero_le _) fun r hr => by cases hr) .nil⟩
          | succ m =>
            have hspot : a.spot = none := by
              obtain ⟨r, _, _, h3, _, _⟩ := each 0 (by omega)
              obtain ⟨-, h4, h5⟩ := World.cells?_some h3
              have h6 := h5 0 g3
              have e0 : (a.add (0 * e1.length)).add 0 = a := by simp [Addr.add]
              rw [e0] at h6
              unfold World.cell? at h6
              cases hsp : a.spot with
              | none => rfl
              | some s =>
                rw [hsp] at h6
                have : r[0]? = none := by
                  rw [← h6]
                  split <;> simp
                rw [List.getElem?_eq_none_iff] at this
                omega
            obtain ⟨b, off, sp⟩ := a
            dsimp only at hspot
            subst hspot
            have hb : b < w.heap.size := by
              obtain ⟨r, _, _, h3, _, _⟩ := each 0 (by omega)
              have := World.cells?_block h3 g3
              rwa [Addr.add_mid] at this
            have ex : ∃ (rows : Nat → List Value) (dss : Nat → List DV) (bss : Nat → List Nat), ∀ i, i < m + 1 → (w.cells? 0 ((⟨b, off, none⟩ : Addr).add (i * e1.length)) e1.length = some (rows i) ∧ Rd false w (rows i) (dss i) (bss i) ∧ WTs e1 (dss i)) := by
              refine ⟨fun i => if hi : i < m + 1 then (each i hi).choose else [], fun i => if hi : i < m + 1 then (each i hi).choose_spec.choose else [],
                fun i => if hi : i < m + 1 then (each i hi).choose_spec.choose_spec.choose else [], fun i hi => ?_⟩
              simp only [dif_pos hi]
              exact (each i hi).choose_spec.choose_spec.choose_spec
            obtain ⟨rows, dss, bss, hex⟩ := ex
            obtain ⟨us, bs, k1, k2, k3⟩ := elems_rd (w := w) (b := b) (sz := e1.length) (m + 1) rows dss bss off fun i hi => by
              obtain ⟨h1, h2, -⟩ := hex i hi
              obtain ⟨-, h3, h4⟩ := World.cells?_some h1
              refine ⟨h3, fun j v hj => ?_, h2⟩
              have hj' : j < e1.length := by rw [← h3]; exact (List.getElem?_eq_some_iff.1 hj).1
              have := h4 j hj'
              rw [Addr.add_mid, Addr.add_mid] at this
              rw [this]; exact hj
            have wt : ∀ r ∈ (List.range (m + 1)).map dss, WTs e1 r := fun r hr => by
              obtain ⟨i, hi, rfl⟩ := List.mem_map.1 hr
              exact (hex i (List.mem_range.1 hi)).2.2
            have hlen : ((List.range (m + 1)).map dss).flatten.length = (m + 1) * e1.length := by rw [← k3.length, k1]
            exact ⟨[.sl e1.length ((List.range (m + 1)).map dss).flatten], b :: (bs ++ []), .sl k2 (fun h => by cases h) hb hlen ⟨g3, hlc⟩ k3 .nil,
              .cons (.sl (by simp; omega) wt) .nil⟩
      | struct fs =>
        obtain ⟨g1, g2⟩ := hsh
        obtain ⟨xs, n, hn, -, hl, hxl, hat⟩ := DataW.trod_struct hu h
        have hn : fuel = n := by omega
        subst hn
        have tile : ∀ (fl : List Field) (off : Nat) (es : List Sh), Tile P sh fl off es → (∀ f ∈ fl, ∃ x, DataW.trod enc P w 0 (fun _ => true) true fuel f.type ((cs.drop f.offset).take (P.cellsOf f.type)) = some x) → off + es.length = cs.length →
            ∃ ds bs, Rd false w (cs.drop off) ds bs ∧ WTs es ds := by
          intro fl
          induction fl with
          | nil =>
            intro off es he _ hle
            simp only [Tile] at he
            subst he
            refine ⟨[], [], ?_, .nil⟩
            rw [List.drop_eq_nil_of_le (by simp at hle; omega)]
            exact .nil
          | cons f fl ihf =>
            intro off es he hx hle
            obtain ⟨h1, e1, e2, h2, h3, rfl, h4⟩ := he
            obtain ⟨x, h5⟩ := hx f (List.mem_cons_self ..)
            rw [h1, h3] at h5
            obtain ⟨ds1, bs1, k1, k2⟩ := ih f.type e1 _ x.1 x.2 h2 h5
            obtain ⟨ds2, bs2, k3, k4⟩ := ihf (off + e1.length) e2 h4 (fun f' hf' => hx f' (List.mem_cons_of_mem _ hf')) (by rw [List.length_append] at hle; omega)
            refine ⟨ds1 ++ ds2, bs1 ++ bs2, ?_, k2.append k4⟩
            have : cs.drop off = (cs.drop off).take e1.length ++ cs.drop (off + e1.length) := by
              rw [← List.drop_drop, List.take_append_drop]
            rw [this]
            exact k1.append k3
        have := tile fs.toList 0 es g2 (fun f hf => by
          obtain ⟨i, hi, hfi⟩ := List.mem_iff_getElem.1 hf
          have hi' : fs[i]? = some f := by rw [← Array.getElem?_toList, List.getElem?_eq_getElem hi, hfi]
          have h1 := hat i f hi'
          have h2 : i < xs.length := by rw [hxl]; simpa using hi
          rw [List.getElem?_eq_getElem h2] at h1
          exact ⟨_, h1⟩) (by omega)
        simpa using this
      | _ => exact hsh.elim
end
end Go.Proofs.Ytlffmhhdgedddaa.DL

/- The data level, part 25: a law's row from its contract. -/
namespace Go.Proofs.Ytlffmhhdgedddaa.DL
open Go Go.RowKit Go.WideShapes Go.ChangeShapes

def rdC : DV → CV
  | .val v => .sc v
  | .sl sz es => .rd (.sl sz es)
def argOf (agg : Bool) (ds : List DV) : SV := if agg then .one (.agg (ds.map rdC)) else .one (.cell (rdC (ds.headD dfl)))
def aggB (P : Program) (t : TypeId) : Bool :=
  match P.underlying t with
  | some (.struct _) => true
  | _ => false
/-- For all data of these types. -/
def AllT (sh : TypeId → Option (List Sh)) : List TypeId → (List (List DV) → Prop) → Prop
  | [], K => K []
  | t :: ts, K => ∀ ds es, sh t = some es → WTs es ds → AllT sh ts fun r => K (ds :: r)
def argSVs : List Bool → List (List DV) → List SV
  | b :: bs, ds :: dss => argOf b ds :: argSVs bs dss
  | _, _ => []

section
variable {H : Type} {enc : TypeId × Value → H} {P : Program} {w : World} {sh : TypeId → Option (List Sh)}

theorem rd_cvs {g : Nat → Value} {o : Bool} {vs : List Value} {ds : List DV} {bs : List Nat} (h : Rd o w vs ds bs) : o = false → CVs w (fun _ => []) g vs (ds.map rdC) [] := by
  induction h with
  | nil => intro _; exact .nil
  | sc h1 _ ih => intro e; exact .cons (ψ := []) ⟨rfl, h1, rfl⟩ (ih e)
  | e0 h1 _ ih => intro e; subst e; exact .cons (ψ := []) ⟨rfl, [], .e0 h1 .nil, fun _ h => by cases h⟩ (ih rfl)
  | sl h1 h2 h3 h4 h5 h6 _ _ ih => intro e; subst e; exact .cons (ψ := []) ⟨rfl, _, .sl h1 h2 h3 h4 h5 h6 .nil, fun _ _ _ => by simp⟩ (ih rfl)

theorem arg_rel (hs : ShOk P sh) {t : TypeId} {es : List Sh} {v : Value} {d : DataW H} {ps : List MemPlace} {g : Nat → Value} {base : Nat} (ht : sh t = some es) (hval : Value.okWide P w .any base t v)
    (hd : DataW.Trod enc P w 0 (fun _ => true) true t v d ps) : ∃ ds, WTs es ds ∧ SlotRel w (fun _ => []) g v [] (argOf (aggB P t) ds) := by
  obtain ⟨fuel, hf⟩ := hd
  obtain ⟨ds, bs, h1, h2⟩ := trod_rd hs fuel t es _ d ps ht hf
  refine ⟨ds, h2, ?_⟩
  have hsh := hs t es ht
  have h3 := rd_cvs (g := g) h1 rfl
  have one : v.cells = #[v] → es.length = 1 → aggB P t = false → SlotRel w (fun _ => []) g v [] (argOf (aggB P t) ds) := fun e1 e2 e3 => by
    rw [e3]
    have hl : ds.length = 1 := by rw [h2.length, e2]
    obtain ⟨x, rfl⟩ := List.length_eq_one_iff.1 hl
    rw [e1] at h3
    obtain ⟨v', hv', h4⟩ := h3.single
    have : v = v' := by simpa using hv'
    subst this
    exact h4
  cases hu : P.underlying t with
  | none => rw [hu] at hsh; exact hsh.elim
  | some u =>
    rw [hu] at hsh
    cases u with
    | bool => obtain ⟨b, rfl⟩ := okWide_bool hu hval; exact one rfl (by rw [hsh]; rfl) (by unfold aggB; rw [hu])
    | int k => obtain ⟨b, rfl⟩ := okWide_int hu hval; exact one rfl (by rw [hsh]; rfl) (by unfold aggB; rw [hu])
    | string => obtain ⟨b, rfl⟩ := okWide_string hu hval; exact one rfl (by rw [hsh]; rfl) (by unfold aggB; rw [hu])
    | slice e => obtain ⟨a, n, cap, rfl⟩ := okWide_slice hu hval; obtain ⟨e1, -, e2, -⟩ := hsh; exact one rfl (by rw [e2]; rfl) (by unfold aggB; rw [hu])
    | struct fs =>
      obtain ⟨cs, rfl, -⟩ := okWide_struct hu hval
      have ha : aggB P t = true := by unfold aggB; rw [hu]
      rw [ha]
      exact ⟨cs, rfl, h3⟩
    | _ => exact hsh.elim

theorem args_all (hs : ShOk P sh) {g : Nat → Value} : ∀ (ts : List TypeId) (vs : List Value) (ds : List (DataW H)) (ps : List MemPlace) (K : List (List DV) → Prop), DataW.TrodAll enc P w 0 (fun _ => true) true ts vs ds ps →
    (∀ (j : Nat) t v, ts[j]? = some t → vs[j]? = some v → Value.okWide P w .any 0 t v) → (∀ t ∈ ts, (sh t).isSome = true) → AllT sh ts K →
    ∃ dss, K dss ∧ (argSVs (ts.map (aggB P)) dss).length = vs.length ∧ ∀ (j : Nat) x, (argSVs (ts.map (aggB P)) dss)[j]? = some x → ∃ v, vs[j]? = some v ∧ SlotRel w (fun _ => []) g v [] x
  | [], [], [], ps, K, _, _, _, hK => ⟨[], hK, rfl, fun j x h => by simp [argSVs] at h⟩
  | t :: ts, v :: vs, d :: ds, ps, K, hA, hval, hsh, hK => by
    obtain ⟨p, q, h1, h2, -⟩ := hA
    obtain ⟨es, he⟩ := Option.isSome_iff_exists.1 (hsh t (List.mem_cons_self ..))
    obtain ⟨dv, k1, k2⟩ := arg_rel (g := g) hs he (hval 0 t v rfl rfl) h1
    obtain ⟨dss, g1, g2, g3⟩ := args_all hs ts vs ds q _ h2 (fun j t v ht hv => hval (j + 1) t v (by simpa using ht) (by simpa using hv)) (fun t ht => hsh t (List.mem_cons_of_mem _ ht)) (hK dv es he k1)
    refine ⟨dv :: dss, g1, by simp [argSVs, g2], fun j x hx => ?_⟩
    cases j with
    | zero =>
      simp only [List.map_cons, argSVs, List.getElem?_cons_zero, Option.some.injEq] at hx
      subst hx
      exact ⟨v, rfl, k2⟩
    | succ j =>
      obtain ⟨v', h3, h4⟩ := g3 j x (by simpa [argSVs] using hx)
      exact ⟨v', by simpa using h3, h4⟩
  | [], _ :: _, _, _, _, hA, _, _, _ => by simp [DataW.TrodAll] at hA
  | [], [], _ :: _, _, _, hA, _, _, _ => by simp [DataW.TrodAll] at hA
  | _ :: _, [], _, _, _, hA, _, _, _ => by simp [DataW.TrodAll] at hA
  | _ :: _, _ :: _, [], _, _, hA, _, _, _ => by simp [DataW.TrodAll] at hA

/-- A LAW CALLED: it says true, and what was there is as it was. -/
theorem law_calls (hs : ShOk P sh) {f : FuncId} {ts : List TypeId} {bs : List Bool} (hb : ts.map (aggB P) = bs) (hsh : ts.all (fun t => (sh t).isSome) = true)
    (hcall : AllT sh ts fun dss => CallD P f (argSVs bs dss) fun r _ => r = .one (.cell (.sc (.bool true)))) {args : Array Value} {ds : List (DataW H)} {ps : List MemPlace}
    (hA : DataW.TrodAll enc P w 0 (fun _ => true) true ts args.toList ds ps) (hval : ∀ (j : Nat) t v, ts[j]? = some t → args[j]? = some v → Value.okWide P w .any 0 t v) :
    Calls P f args w fun e w' => e = .returned (.bool true) ∧ Below w.heap.size w w' := by
  subst hb
  obtain ⟨dss, h1, h2, h3⟩ := args_all (g := valAt args) hs ts args.toList ds ps _ hA (fun j t v ht hv => hval j t v ht (by simpa using hv)) (fun t ht => List.all_eq_true.1 hsh t ht) hcall
  have hz : ((List.range (argSVs (ts.map (aggB P)) dss).length).flatMap fun t => (fun _ => [] : Option Nat → List Nat) (some t)) = [] := by simp
  have hr : RelW (fun _ => []) w [] (argSVs (ts.map (aggB P)) dss) .dead args undef w := by
    refine ⟨by simpa using h2.symm, fun t x hx => ?_, fun _ => List.nodup_nil, fun _ _ _ b hb => (by cases hb), fun _ b hb => (by cases hb), Ext.refl _ _⟩
    cases t with
    | none => cases hx; exact trivial
    | some t =>
      obtain ⟨v, h4, h5⟩ := h3 t x hx
      have h4' : args[t]? = some v := by simpa using h4
      have : vget args undef (some t) = v := by simp [vget, valAt, h4']
      rw [this]
      exact h5
  have := h1.2 w args (fun _ => []) (by rw [hz]; exact hr) rfl
  rw [hz] at this
  refine this.mono fun e w' ⟨v, r, args', φ', e1, e2, e3, e4⟩ => ?_
  subst e2
  obtain ⟨g1, -, -⟩ := e4.slot none _ rfl
  have g1 : v = .bool true := g1
  exact ⟨by rw [e1, g1], e4.ext.below⟩
end

section
variable {H : Type} {enc : TypeId × Value → H} {P : Program}
theorem post_of_below {f : Func} {s : ChangeSpec} {apart fresh handsOn again : Bool} {W W' : World} {args : Array Value} {v : Value} {ds gs : List (DataW H)} {before pa pv : List MemPlace}
    (hW : DataW.Whole enc P f.params.toList s.vars apart W args.toList ds gs before)
    (hres : ∀ (b : Nat) (sp : Nat → Bool) (hd : Bool), DataW.TrodAll enc P W' b sp hd f.resultTypes.toList (v.resultList f.resultTypes.size) (s.fn H (ds ++ gs)).results [])
    (hargs : ∀ sp : Nat → Bool, (∀ p ∈ before, sp p.block = true) → DataW.TrodAll enc P W' 0 sp true f.params.toList args.toList (s.fn H (ds ++ gs)).args pa)
    (hvars : ∀ sp : Nat → Bool, (∀ p ∈ before, sp p.block = true) → DataW.TrodVars enc P W' sp s.vars (s.fn H (ds ++ gs)).vars pv)
    (hps : before = pa ++ pv) (hb : Below W.heap.size W W')
    (hok : ∀ (j : Nat) (t : TypeId) (r : Value), f.resultTypes[j]? = some t → (v.resultList f.resultTypes.size)[j]? = some r → Value.okWide P W' .any 0 t r) :
    s.post enc P f apart fresh handsOn again W args v W' := by
  have hlt : ∀ p ∈ before, p.block < W.heap.size := fun p hp => hW.lt p hp
  have hold : ∀ p ∈ before, (fun b => decide (b < W.heap.size)) p.block = true := fun p hp => by simpa using hlt p hp
  refine ⟨ds, gs, before, [], pa, pv, hW, hres _ _ _, hargs _ hold, hvars _ hold, World.keptBut_mono (fun p hp => ⟨hp, ?_⟩) (hb.frame (· ∈ before)), fun _ => ?_⟩
  · rw [hps, List.mem_append] at hp
    exact Or.inr hp
  · obtain ⟨_, _, _, _, _, hz, hn⟩ := hW
    refine ⟨hok, _, _, ([] ++ pa) ++ pv, ⟨[] ++ pa, pv, trodAll_append (hargs _ (fun _ _ => rfl)) (hres _ _ _), hvars _ (fun _ _ => rfl), rfl, ?_, ?_⟩, ?_⟩
    · intro b off hp
      have hin : MemPlace.cell b off ∈ before := by rw [hps]; simpa using hp
      rw [hb.frozen (hlt _ hin)]
      exact hz b off hin
    · intro ha
      have := hn ha
      rw [hps] at this
      simpa using this
    · intro p hp _
      rw [hps]
      simpa using hp
theorem trodAll_stays (hl : laidOutB P = true) {W W' : World} (hb : Below W.heap.size W W') : ∀ (ts : List TypeId) (vs : List Value) (ds : List (DataW H)) (ps : List MemPlace) (sp : Nat → Bool),
    ts.all (fun t => P.readableRec t && decide (t < P.types.size)) = true → DataW.TrodAll enc P W 0 (fun _ => true) true ts vs ds ps → (∀ p ∈ ps, p.block < W.heap.size) → (∀ p ∈ ps, sp p.block = true) → DataW.TrodAll enc P W' 0 sp true ts vs ds ps
  | [], [], [], ps, sp, _, h, _, _ => h
  | t :: ts, v :: vs, d :: ds, ps, sp, hr, ⟨p, q, h1, h2, e⟩, hlt, hsp => by
    subst e
    simp only [List.all_cons, Bool.and_eq_true, decide_eq_true_eq] at hr
    exact ⟨p, q, WideElems.Trod_stays hl hr.1.1 hr.1.2 h1 (fun x hx => hb.same (hlt x (List.mem_append_left _ hx))) (fun x hx => hsp x (List.mem_append_left _ hx)),
      trodAll_stays hl hb ts vs ds q sp hr.2 h2 (fun x hx => hlt x (List.mem_append_right _ hx)) (fun x hx => hsp x (List.mem_append_right _ hx)), rfl⟩
  | [], _ :: _, _, _, _, _, hA, _, _ => by simp [DataW.TrodAll] at hA
  | [], [], _ :: _, _, _, _, hA, _, _ => by simp [DataW.TrodAll] at hA
  | _ :: _, [], _, _, _, _, hA, _, _ => by simp [DataW.TrodAll] at hA
  | _ :: _, _ :: _, [], _, _, _, hA, _, _ => by simp [DataW.TrodAll] at hA

theorem trodAll_len {W : World} {sp : Nat → Bool} : ∀ (ts : List TypeId) (vs : List Value) (ds : List (DataW H)) (ps : List MemPlace), DataW.TrodAll enc P W 0 sp true ts vs ds ps → ds.length = ts.length
  | [], [], [], _, _ => rfl
  | t :: ts, v :: vs, d :: ds, ps, ⟨p, q, _, h2, _⟩ => by simp [trodAll_len ts vs ds q h2]
  | [], _ :: _, _, _, hA => by simp [DataW.TrodAll] at hA
  | [], [], _ :: _, _, hA => by simp [DataW.TrodAll] at hA
  | _ :: _, [], _, _, hA => by simp [DataW.TrodAll] at hA
  | _ :: _, _ :: _, [], _, hA => by simp [DataW.TrodAll] at hA

theorem spec_vars_nil {W : World} {sp : Nat → Bool} {gs : List (DataW H)} {q : List MemPlace} (h : DataW.TrodVars enc P W sp [] gs q) : gs = [] ∧ q = [] := by
  cases gs with
  | nil => exact ⟨rfl, h⟩
  | cons g gs => exact h.elim

/-- A LAW'S ROW: it says true, and the input reads as it did. -/
theorem law_row (hl : laidOutB P = true) {sh : TypeId → Option (List Sh)} (hs : ShOk P sh) {f : FuncId} {fn : Func} {s : ChangeSpec} {bt : TypeId} {bs : List Bool} {apart fresh handsOn again : Bool}
    (hvars : s.vars = []) (hrt : fn.resultTypes = #[bt]) (hbt : P.underlying bt = some .bool) (hread : fn.params.toList.all (fun t => P.readableRec t && decide (t < P.types.size)) = true)
    (hspec : ∀ ds : List (DataW H), ds.length = fn.params.toList.length → s.fn H ds = { results := [.lit (.bool true)], args := ds }) (hb : fn.params.toList.map (aggB P) = bs)
    (hsh : fn.params.toList.all (fun t => (sh t).isSome) = true)
    (hcall : AllT sh fn.params.toList fun dss => CallD P f (argSVs bs dss) fun r _ => r = .one (.cell (.sc (.bool true))))
    {W : World} {args : Array Value} {ds gs : List (DataW H)} {before : List MemPlace}
    (hW : DataW.Whole enc P fn.params.toList s.vars apart W args.toList ds gs before)
    (hval : ∀ (j : Nat) t v, fn.params[j]? = some t → args[j]? = some v → Value.okWide P W .any 0 t v) :
    Calls P f args W fun e W' => ∃ v, e = .returned v ∧ s.post enc P fn apart fresh handsOn again W args v W' := by
  have hW' := hW
  obtain ⟨p, q, hA, hV, rfl, hfz, hnd⟩ := hW
  rw [hvars] at hV
  obtain ⟨rfl, rfl⟩ := spec_vars_nil hV
  have hlt : ∀ x ∈ p ++ [], x.block < W.heap.size := fun x hx => hW'.lt x hx
  have hlen := trodAll_len _ _ _ _ hA
  refine (law_calls hs hb hsh hcall hA fun j t v ht hv => hval j t v (by simpa using ht) hv).mono fun e W' ⟨he, hbl⟩ => ?_
  subst he
  have e : s.fn H (ds ++ []) = { results := [.lit (.bool true)], args := ds } := by rw [List.append_nil]; exact hspec ds hlen
  refine ⟨_, rfl, post_of_below (pa := p) (pv := []) hW' (fun b sp hd => ?_) (fun sp hsp => ?_) (fun sp hsp => ?_) rfl hbl fun j t r ht hr => ?_⟩
  · rw [e, hrt]
    exact trodAll_mk1 ⟨1, by simp [DataW.trod, hbt, Value.cells]⟩
  · rw [e]
    exact trodAll_stays hl hbl _ _ _ _ sp hread hA (fun x hx => hlt x (by simpa using hx)) fun x hx => hsp x (by simpa using hx)
  · rw [e, hvars]; exact rfl
  · rw [hrt] at ht hr
    cases j with
    | zero =>
      have ht : bt = t := by simpa using ht
      have hr : Value.bool true = r := by simpa [Value.resultList] using hr
      subst ht hr
      simp [Value.okWide, hbt, Cell.okWide, Cell.ok]
    | succ j => simp at ht
end
/-- What holds of bytes seen as they are holds of bytes lent for reading. -/
theorem callD_of_vl {P : Program} {f : FuncId} {d : DV} {post : SV → List SV → Prop} (h : ∀ v, CallD P f [.one (.cell (.vl v d))] post) : CallD P f [.one (.cell (.rd d))] post := by
  refine ⟨(h undef).1, fun w vs φ hr hn => (h (vget vs undef (some 0))).2 w vs φ ⟨hr.len, fun t x hx => ?_, hr.nd, hr.dj, hr.lt, hr.ext⟩ hn⟩
  match t, hx with
  | none, hx => exact hr.slot none x hx
  | some 0, hx =>
    cases hx
    obtain ⟨h1, bs, h2, h3⟩ : CVRel w φ (valAt vs) (vget vs undef (some 0)) (φ (some 0)) (.rd d) := hr.slot (some 0) _ rfl
    exact ⟨h1, rfl, bs, h2, h3⟩
  | some (t + 1), hx => exact absurd hx (by simp [sget])
theorem condB_i {b : Bool} {A B : Prop} (h1 : b = true → A) (h2 : b = false → B) : condB b A B := by
  cases b
  · exact h2 rfl
  · exact h1 rfl
theorem condB_t {b : Bool} {A B : Prop} (hb : b = true) (h : A) : condB b A B := by subst hb; exact h
theorem condB_f {b : Bool} {A B : Prop} (hb : b = false) (h : B) : condB b A B := by subst hb; exact h
end Go.Proofs.Ytlffmhhdgedddaa.DL
