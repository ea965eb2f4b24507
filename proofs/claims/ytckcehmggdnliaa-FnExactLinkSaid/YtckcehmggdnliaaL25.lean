/- The data level, part 25: a law's row from its contract. -/
import Derived.Test.YtckcehmggdnliaaL24
import Derived.ChangeSame
namespace Go.Proofs.Ytckcehmggdnliaa.DL
open Go Go.RowKit Go.WideShapes Go.ChangeShapes

def rdC : DV → CV
  | .val v => .sc v
  | .sl sz es => .rd (.sl sz es)
def argOf (agg : Bool) (ds : List DV) : SV := if agg then .one (.agg (ds.map rdC)) else .one (.cell (rdC (ds.headD dfl)))
def aggB (P : Program) (t : TypeId) : Bool :=
  match P.underlying t with
  | some (.struct _) => true
  | _ => false
/-- For all data of these types. -/
def AllT (sh : TypeId → Option (List Sh)) : List TypeId → (List (List DV) → Prop) → Prop
  | [], K => K []
  | t :: ts, K => ∀ ds es, sh t = some es → WTs es ds → AllT sh ts fun r => K (ds :: r)
def argSVs : List Bool → List (List DV) → List SV
  | b :: bs, ds :: dss => argOf b ds :: argSVs bs dss
  | _, _ => []

section
variable {H : Type} {enc : TypeId × Value → H} {P : Program} {w : World} {sh : TypeId → Option (List Sh)}

theorem rd_cvs {g : Nat → Value} {o : Bool} {vs : List Value} {ds : List DV} {bs : List Nat} (h : Rd o w vs ds bs) : o = false → CVs w (fun _ => []) g vs (ds.map rdC) [] := by
  induction h with
  | nil => intro _; exact .nil
  | sc h1 _ ih => intro e; exact .cons (ψ := []) ⟨rfl, h1, rfl⟩ (ih e)
  | e0 h1 _ ih => intro e; subst e; exact .cons (ψ := []) ⟨rfl, [], .e0 h1 .nil, fun _ h => by cases h⟩ (ih rfl)
  | sl h1 h2 h3 h4 h5 h6 _ _ ih => intro e; subst e; exact .cons (ψ := []) ⟨rfl, _, .sl h1 h2 h3 h4 h5 h6 .nil, fun _ _ _ => by simp⟩ (ih rfl)

theorem arg_rel (hs : ShOk P sh) {t : TypeId} {es : List Sh} {v : Value} {d : DataW H} {ps : List MemPlace} {g : Nat → Value} {base : Nat} (ht : sh t = some es) (hval : Value.okWide P w .any base t v)
    (hd : DataW.Trod enc P w 0 (fun _ => true) true t v d ps) : ∃ ds, WTs es ds ∧ SlotRel w (fun _ => []) g v [] (argOf (aggB P t) ds) := by
  obtain ⟨fuel, hf⟩ := hd
  obtain ⟨ds, bs, h1, h2⟩ := trod_rd hs fuel t es _ d ps ht hf
  refine ⟨ds, h2, ?_⟩
  have hsh := hs t es ht
  have h3 := rd_cvs (g := g) h1 rfl
  have one : v.cells = #[v] → es.length = 1 → aggB P t = false → SlotRel w (fun _ => []) g v [] (argOf (aggB P t) ds) := fun e1 e2 e3 => by
    rw [e3]
    have hl : ds.length = 1 := by rw [h2.length, e2]
    obtain ⟨x, rfl⟩ := List.length_eq_one_iff.1 hl
    rw [e1] at h3
    obtain ⟨v', hv', h4⟩ := h3.single
    have : v = v' := by simpa using hv'
    subst this
    exact h4
  cases hu : P.underlying t with
  | none => rw [hu] at hsh; exact hsh.elim
  | some u =>
    rw [hu] at hsh
    cases u with
    | bool => obtain ⟨b, rfl⟩ := okWide_bool hu hval; exact one rfl (by rw [hsh]; rfl) (by unfold aggB; rw [hu])
    | int k => obtain ⟨b, rfl⟩ := okWide_int hu hval; exact one rfl (by rw [hsh]; rfl) (by unfold aggB; rw [hu])
    | string => obtain ⟨b, rfl⟩ := okWide_string hu hval; exact one rfl (by rw [hsh]; rfl) (by unfold aggB; rw [hu])
    | slice e => obtain ⟨a, n, cap, rfl⟩ := okWide_slice hu hval; obtain ⟨e1, -, e2, -⟩ := hsh; exact one rfl (by rw [e2]; rfl) (by unfold aggB; rw [hu])
    | struct fs =>
      obtain ⟨cs, rfl, -⟩ := okWide_struct hu hval
      have ha : aggB P t = true := by unfold aggB; rw [hu]
      rw [ha]
      exact ⟨cs, rfl, h3⟩
    | _ => exact hsh.elim

theorem args_all (hs : ShOk P sh) {g : Nat → Value} : ∀ (ts : List TypeId) (vs : List Value) (ds : List (DataW H)) (ps : List MemPlace) (K : List (List DV) → Prop), DataW.TrodAll enc P w 0 (fun _ => true) true ts vs ds ps →
    (∀ (j : Nat) t v, ts[j]? = some t → vs[j]? = some v → Value.okWide P w .any 0 t v) → (∀ t ∈ ts, (sh t).isSome = true) → AllT sh ts K →
    ∃ dss, K dss ∧ (argSVs (ts.map (aggB P)) dss).length = vs.length ∧ ∀ (j : Nat) x, (argSVs (ts.map (aggB P)) dss)[j]? = some x → ∃ v, vs[j]? = some v ∧ SlotRel w (fun _ => []) g v [] x
  | [], [], [], ps, K, _, _, _, hK => ⟨[], hK, rfl, fun j x h => by simp [argSVs] at h⟩
  | t :: ts, v :: vs, d :: ds, ps, K, hA, hval, hsh, hK => by
    obtain ⟨p, q, h1, h2, -⟩ := hA
    obtain ⟨es, he⟩ := Option.isSome_iff_exists.1 (hsh t (List.mem_cons_self ..))
    obtain ⟨dv, k1, k2⟩ := arg_rel (g := g) hs he (hval 0 t v rfl rfl) h1
    obtain ⟨dss, g1, g2, g3⟩ := args_all hs ts vs ds q _ h2 (fun j t v ht hv => hval (j + 1) t v (by simpa using ht) (by simpa using hv)) (fun t ht => hsh t (List.mem_cons_of_mem _ ht)) (hK dv es he k1)
    refine ⟨dv :: dss, g1, by simp [argSVs, g2], fun j x hx => ?_⟩
    cases j with
    | zero =>
      simp only [List.map_cons, argSVs, List.getElem?_cons_zero, Option.some.injEq] at hx
      subst hx
      exact ⟨v, rfl, k2⟩
    | succ j =>
      obtain ⟨v', h3, h4⟩ := g3 j x (by simpa [argSVs] using hx)
      exact ⟨v', by simpa using h3, h4⟩
  | [], _ :: _, _, _, _, hA, _, _, _ => by simp [DataW.TrodAll] at hA
  | [], [], _ :: _, _, _, hA, _, _, _ => by simp [DataW.TrodAll] at hA
  | _ :: _, [], _, _, _, hA, _, _, _ => by simp [DataW.TrodAll] at hA
  | _ :: _, _ :: _, [], _, _, hA, _, _, _ => by simp [DataW.TrodAll] at hA

/-- A LAW CALLED: it says true, and what was there is as it was. -/
theorem law_calls (hs : ShOk P sh) {f : FuncId} {ts : List TypeId} {bs : List Bool} (hb : ts.map (aggB P) = bs) (hsh : ts.all (fun t => (sh t).isSome) = true)
    (hcall : AllT sh ts fun dss => CallD P f (argSVs bs dss) fun r _ => r = .one (.cell (.sc (.bool true)))) {args : Array Value} {ds : List (DataW H)} {ps : List MemPlace}
    (hA : DataW.TrodAll enc P w 0 (fun _ => true) true ts args.toList ds ps) (hval : ∀ (j : Nat) t v, ts[j]? = some t → args[j]? = some v → Value.okWide P w .any 0 t v) :
    Calls P f args w fun e w' => e = .returned (.bool true) ∧ Below w.heap.size w w' := by
  subst hb
  obtain ⟨dss, h1, h2, h3⟩ := args_all (g := valAt args) hs ts args.toList ds ps _ hA (fun j t v ht hv => hval j t v ht (by simpa using hv)) (fun t ht => List.all_eq_true.1 hsh t ht) hcall
  have hz : ((List.range (argSVs (ts.map (aggB P)) dss).length).flatMap fun t => (fun _ => [] : Option Nat → List Nat) (some t)) = [] := by simp
  have hr : RelW (fun _ => []) w [] (argSVs (ts.map (aggB P)) dss) .dead args undef w := by
    refine ⟨by simpa using h2.symm, fun t x hx => ?_, fun _ => List.nodup_nil, fun _ _ _ b hb => (by cases hb), fun _ b hb => (by cases hb), Ext.refl _ _⟩
    cases t with
    | none => cases hx; exact trivial
    | some t =>
      obtain ⟨v, h4, h5⟩ := h3 t x hx
      have h4' : args[t]? = some v := by simpa using h4
      have : vget args undef (some t) = v := by simp [vget, valAt, h4']
      rw [this]
      exact h5
  have := h1.2 w args (fun _ => []) (by rw [hz]; exact hr) rfl
  rw [hz] at this
  refine this.mono fun e w' ⟨v, r, args', φ', e1, e2, e3, e4⟩ => ?_
  subst e2
  obtain ⟨g1, -, -⟩ := e4.slot none _ rfl
  have g1 : v = .bool true := g1
  exact ⟨by rw [e1, g1], e4.ext.below⟩
end

section
variable {H : Type} {enc : TypeId × Value → H} {P : Program}
theorem post_of_below {f : Func} {s : ChangeSpec} {apart fresh handsOn again : Bool} {W W' : World} {args : Array Value} {v : Value} {ds gs : List (DataW H)} {before pa pv : List MemPlace}
    (hW : DataW.Whole enc P f.params.toList s.vars apart W args.toList ds gs before)
    (hres : ∀ (b : Nat) (sp : Nat → Bool) (hd : Bool), DataW.TrodAll enc P W' b sp hd f.resultTypes.toList (v.resultList f.resultTypes.size) (s.fn H (ds ++ gs)).results [])
    (hargs : ∀ sp : Nat → Bool, (∀ p ∈ before, sp p.block = true) → DataW.TrodAll enc P W' 0 sp true f.params.toList args.toList (s.fn H (ds ++ gs)).args pa)
    (hvars : ∀ sp : Nat → Bool, (∀ p ∈ before, sp p.block = true) → DataW.TrodVars enc P W' sp s.vars (s.fn H (ds ++ gs)).vars pv)
    (hps : before = pa ++ pv) (hb : Below W.heap.size W W')
    (hok : ∀ (j : Nat) (t : TypeId) (r : Value), f.resultTypes[j]? = some t → (v.resultList f.resultTypes.size)[j]? = some r → Value.okWide P W' .any 0 t r) :
    s.post enc P f apart fresh handsOn again W args v W' := by
  have hlt : ∀ p ∈ before, p.block < W.heap.size := fun p hp => hW.lt p hp
  have hold : ∀ p ∈ before, (fun b => decide (b < W.heap.size)) p.block = true := fun p hp => by simpa using hlt p hp
  refine ⟨ds, gs, before, [], pa, pv, hW, hres _ _ _, hargs _ hold, hvars _ hold, World.keptBut_mono (fun p hp => ⟨hp, ?_⟩) (hb.frame (· ∈ before)), fun _ => ?_⟩
  · rw [hps, List.mem_append] at hp
    exact Or.inr hp
  · obtain ⟨_, _, _, _, _, hz, hn⟩ := hW
    refine ⟨hok, _, _, ([] ++ pa) ++ pv, ⟨[] ++ pa, pv, trodAll_append (hargs _ (fun _ _ => rfl)) (hres _ _ _), hvars _ (fun _ _ => rfl), rfl, ?_, ?_⟩, ?_⟩
    · intro b off hp
      have hin : MemPlace.cell b off ∈ before := by rw [hps]; simpa using hp
      rw [hb.frozen (hlt _ hin)]
      exact hz b off hin
    · intro ha
      have := hn ha
      rw [hps] at this
      simpa using this
    · intro p hp _
      rw [hps]
      simpa using hp
theorem trodAll_stays (hl : laidOutB P = true) {W W' : World} (hb : Below W.heap.size W W') : ∀ (ts : List TypeId) (vs : List Value) (ds : List (DataW H)) (ps : List MemPlace) (sp : Nat → Bool),
    ts.all (fun t => P.readableRec t && decide (t < P.types.size)) = true → DataW.TrodAll enc P W 0 (fun _ => true) true ts vs ds ps → (∀ p ∈ ps, p.block < W.heap.size) → (∀ p ∈ ps, sp p.block = true) → DataW.TrodAll enc P W' 0 sp true ts vs ds ps
  | [], [], [], ps, sp, _, h, _, _ => h
  | t :: ts, v :: vs, d :: ds, ps, sp, hr, ⟨p, q, h1, h2, e⟩, hlt, hsp => by
    subst e
    simp only [List.all_cons, Bool.and_eq_true, decide_eq_true_eq] at hr
    exact ⟨p, q, WideElems.Trod_stays hl hr.1.1 hr.1.2 h1 (fun x hx => hb.same (hlt x (List.mem_append_left _ hx))) (fun x hx => hsp x (List.mem_append_left _ hx)),
      trodAll_stays hl hb ts vs ds q sp hr.2 h2 (fun x hx => hlt x (List.mem_append_right _ hx)) (fun x hx => hsp x (List.mem_append_right _ hx)), rfl⟩
  | [], _ :: _, _, _, _, _, hA, _, _ => by simp [DataW.TrodAll] at hA
  | [], [], _ :: _, _, _, _, hA, _, _ => by simp [DataW.TrodAll] at hA
  | _ :: _, [], _, _, _, _, hA, _, _ => by simp [DataW.TrodAll] at hA
  | _ :: _, _ :: _, [], _, _, _, hA, _, _ => by simp [DataW.TrodAll] at hA

theorem trodAll_len {W : World} {sp : Nat → Bool} : ∀ (ts : List TypeId) (vs : List Value) (ds : List (DataW H)) (ps : List MemPlace), DataW.TrodAll enc P W 0 sp true ts vs ds ps → ds.length = ts.length
  | [], [], [], _, _ => rfl
  | t :: ts, v :: vs, d :: ds, ps, ⟨p, q, _, h2, _⟩ => by simp [trodAll_len ts vs ds q h2]
  | [], _ :: _, _, _, hA => by simp [DataW.TrodAll] at hA
  | [], [], _ :: _, _, hA => by simp [DataW.TrodAll] at hA
  | _ :: _, [], _, _, hA => by simp [DataW.TrodAll] at hA
  | _ :: _, _ :: _, [], _, hA => by simp [DataW.TrodAll] at hA

theorem spec_vars_nil {W : World} {sp : Nat → Bool} {gs : List (DataW H)} {q : List MemPlace} (h : DataW.TrodVars enc P W sp [] gs q) : gs = [] ∧ q = [] := by
  cases gs with
  | nil => exact ⟨rfl, h⟩
  | cons g gs => exact h.elim

/-- A LAW'S ROW: it says true, and the input reads as it did. -/
theorem law_row (hl : laidOutB P = true) {sh : TypeId → Option (List Sh)} (hs : ShOk P sh) {f : FuncId} {fn : Func} {s : ChangeSpec} {bt : TypeId} {bs : List Bool} {apart fresh handsOn again : Bool}
    (hvars : s.vars = []) (hrt : fn.resultTypes = #[bt]) (hbt : P.underlying bt = some .bool) (hread : fn.params.toList.all (fun t => P.readableRec t && decide (t < P.types.size)) = true)
    (hspec : ∀ ds : List (DataW H), ds.length = fn.params.toList.length → s.fn H ds = { results := [.lit (.bool true)], args := ds }) (hb : fn.params.toList.map (aggB P) = bs)
    (hsh : fn.params.toList.all (fun t => (sh t).isSome) = true)
    (hcall : AllT sh fn.params.toList fun dss => CallD P f (argSVs bs dss) fun r _ => r = .one (.cell (.sc (.bool true))))
    {W : World} {args : Array Value} {ds gs : List (DataW H)} {before : List MemPlace}
    (hW : DataW.Whole enc P fn.params.toList s.vars apart W args.toList ds gs before)
    (hval : ∀ (j : Nat) t v, fn.params[j]? = some t → args[j]? = some v → Value.okWide P W .any 0 t v) :
    Calls P f args W fun e W' => ∃ v, e = .returned v ∧ s.post enc P fn apart fresh handsOn again W args v W' := by
  have hW' := hW
  obtain ⟨p, q, hA, hV, rfl, hfz, hnd⟩ := hW
  rw [hvars] at hV
  obtain ⟨rfl, rfl⟩ := spec_vars_nil hV
  have hlt : ∀ x ∈ p ++ [], x.block < W.heap.size := fun x hx => hW'.lt x hx
  have hlen := trodAll_len _ _ _ _ hA
  refine (law_calls hs hb hsh hcall hA fun j t v ht hv => hval j t v (by simpa using ht) hv).mono fun e W' ⟨he, hbl⟩ => ?_
  subst he
  have e : s.fn H (ds ++ []) = { results := [.lit (.bool true)], args := ds } := by rw [List.append_nil]; exact hspec ds hlen
  refine ⟨_, rfl, post_of_below (pa := p) (pv := []) hW' (fun b sp hd => ?_) (fun sp hsp => ?_) (fun sp hsp => ?_) rfl hbl fun j t r ht hr => ?_⟩
  · rw [e, hrt]
    exact trodAll_mk1 ⟨1, by simp [DataW.trod, hbt, Value.cells]⟩
  · rw [e]
    exact trodAll_stays hl hbl _ _ _ _ sp hread hA (fun x hx => hlt x (by simpa using hx)) fun x hx => hsp x (by simpa using hx)
  · rw [e, hvars]; exact rfl
  · rw [hrt] at ht hr
    cases j with
    | zero =>
      have ht : bt = t := by simpa using ht
      have hr : Value.bool true = r := by simpa [Value.resultList] using hr
      subst ht hr
      simp [Value.okWide, hbt, Cell.okWide, Cell.ok]
    | succ j => simp at ht
end
end Go.Proofs.Ytckcehmggdnliaa.DL
