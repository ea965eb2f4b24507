/- The data level, part 15: one operation, in the walk's own terms. -/
import Derived.Test.YtckcehmggdnliaaL14d
import Derived.Orders
import Derived.Laws.StructEq
namespace Go.Proofs.Ytckcehmggdnliaa.DL
open Go Go.RowKit

section
variable {P : Program} {tb : Tb} {φ : Option Nat → List Nat} {w0 w w' : World} {F0 : List Nat} {sl : Sl} {fx : SV} {ts : Array Value} {fv : Value} {ds : List Deferred}

theorem agg_view (h : RelW φ w0 F0 sl fx ts fv w) {ty : TypeId} {o : Operand} {cs : List CV} (hx : opView tb ty sl o = some (.one (.agg cs))) : ∃ vs ψ, Act.eval ⟨ts, ds⟩ o = .agg vs ∧ CVs w φ (valAt ts) vs.toList cs ψ := by
  cases o with
  | tmp t =>
    simp only [opView, Option.some.injEq] at hx
    have hg := gt_rel h t
    have : ∃ cs0, gt sl t = .one (.agg cs0) ∧ cs = cs0.map (resC sl) := by
      unfold view at hx
      split at hx
      · cases hx
      · cases hx
      · rename_i cs0 e
        cases hx
        exact ⟨cs0, e, rfl⟩
      · cases hx
      · rename_i n1 n2 n3 n4
        exact absurd hx (n3 cs)
    obtain ⟨cs0, this, rfl⟩ := this
    rw [this] at hg
    obtain ⟨vs, h1, h2⟩ := hg
    exact ⟨vs, _, h1, resCs_rel h h2⟩
  | const v =>
    simp only [opView] at hx
    unfold constSV at hx
    split at hx <;> first | (cases hx; done) | (split at hx <;> cases hx) | cases hx
  | func f => simp [opView] at hx
  | global g => simp [opView] at hx

theorem eqFsB_len {n : Nat} : ∀ (fs : List Field) (off : Nat), eqFsB P off fs n = true → off + fs.length = n
  | [], off, h => by simpa [eqFsB] using h
  | f :: fs, off, h => by
    simp only [eqFsB, Bool.and_eq_true] at h
    have := eqFsB_len fs (off + 1) h.2
    simp; omega
theorem eqCs_cons {c : CV} {cs es : List CV} {b : Bool} (h : eqCs (c :: cs) es = some b) : ∃ k a k' a' es' b', c = .sc (.int k a) ∧ es = .sc (.int k' a') :: es' ∧ sameK k k' = true ∧ eqCs cs es' = some b' ∧ b = (decide (a = a') && b') := by
  cases es with
  | nil => simp [eqCs] at h
  | cons e es =>
    cases c with
    | sc u =>
      cases u with
      | int k a =>
        cases e with
        | sc v =>
          cases v with
          | int k' a' =>
            simp only [eqCs] at h
            split at h
            · rename_i b' h1 h2
              cases h
              exact ⟨k, a, k', a', es, b', rfl, rfl, h1, h2, rfl⟩
            · cases h
          | _ => simp [eqCs] at h
        | _ => simp [eqCs] at h
      | _ => simp [eqCs] at h
    | _ => simp [eqCs] at h
theorem eqFs_run {f : Nat → Value} (d : Nat) {n : Nat} {xs ys : Array Value} : ∀ (fs : List Field) (off : Nat) {cs es : List CV} {b : Bool} {ψ ψ' : List Nat}, eqFsB P off fs n = true → cs.length = fs.length → eqCs cs es = some b →
    CVs w φ f (xs.toList.drop off) cs ψ → CVs w φ f (ys.toList.drop off) es ψ' → (Op.eqFields (d + 1) xs ys fs).run P w = .ok b w
  | [], off, cs, es, b, ψ, ψ', hf, hl, he, hx, hy => by
    have : cs = [] := List.length_eq_zero_iff.1 hl
    subst this
    cases es with
    | nil => cases he; rfl
    | cons e es => simp [eqCs] at he
  | fd :: fs, off, [], es, b, ψ, ψ', hf, hl, he, hx, hy => by simp at hl
  | fd :: fs, off, c :: cs, es, b, ψ, ψ', hf, hl, he, hx, hy => by
    simp only [eqFsB, Bool.and_eq_true, bne_iff_ne, ne_eq, beq_iff_eq] at hf
    obtain ⟨⟨⟨hn, ho⟩, hu⟩, hf⟩ := hf
    obtain ⟨k0, hu⟩ : ∃ k, P.underlying fd.type = some (.int k) := by
      split at hu
      · rename_i k e; exact ⟨k, e⟩
      · cases hu
    obtain ⟨k, a, k', a', es', b', rfl, rfl, hk, he', rfl⟩ := eqCs_cons he
    have hk := sameK_eq hk
    subst hk
    generalize hX : xs.toList.drop off = X at hx
    generalize hY : ys.toList.drop off = Y at hy
    cases hx with
    | @cons vx _ _ vxs _ _ hx1 hx2 =>
    cases hy with
    | @cons vy _ _ vys _ _ hy1 hy2 =>
    obtain ⟨rfl, -, -⟩ := hx1
    obtain ⟨rfl, -, -⟩ := hy1
    have gx : xs[off]? = some (.int k a) := by
      have : (xs.toList.drop off)[0]? = some (.int k a) := by rw [hX]; rfl
      rw [List.getElem?_drop] at this
      simpa using this
    have gy : ys[off]? = some (.int k a') := by
      have : (ys.toList.drop off)[0]? = some (.int k a') := by rw [hY]; rfl
      rw [List.getElem?_drop] at this
      simpa using this
    have dX : xs.toList.drop (off + 1) = vxs := by rw [← List.tail_drop, hX]; rfl
    have dY : ys.toList.drop (off + 1) = vys := by rw [← List.tail_drop, hY]; rfl
    have ih := eqFs_run (f := f) (xs := xs) (ys := ys) d fs (off + 1) hf (by simpa using hl) he' (by rw [dX]; exact hx2) (by rw [dY]; exact hy2)
    have px : (part fd.type xs fd.offset).run P w = .ok (.int k a) w := by
      rw [ho]; simp [part, isAgg, run_underlying hu, gx]
    have py : (part fd.type ys fd.offset).run P w = .ok (.int k a') w := by
      rw [ho]; simp [part, isAgg, run_underlying hu, gy]
    simp only [Op.eqFields, hn, ne_eq, not_false_eq_true, if_true, Sem.run_bind, px, py, Result.andThen_ok, run_equalIn_int w d fd.type k k0 a a' hu]
    by_cases e : a = a'
    · subst e
      simpa using ih
    · simp [e]

theorem eqA_sound (hT : TbOk P tb) (h : RelW φ w0 F0 sl fx ts fv w) {op : BinOp} {xt yt ty : TypeId} {x y : Operand} {cs es : List CV} {b : Bool} (hx : opView tb ty sl x = some (.one (.agg cs))) (hy : opView tb ty sl y = some (.one (.agg es)))
    (hb : eqA op ((tb xt).eq && cs.length == (tb xt).size) cs es = some b) : Sound P w0 F0 ts ds w (.binOp op xt x y yt) ty (.one (.cell (.sc (.bool b)))) sl := by
  obtain ⟨vs, ψ1, e1, h1⟩ := agg_view (ds := ds) h hx
  obtain ⟨us, ψ2, e2, h2⟩ := agg_view (ds := ds) h hy
  have key : ((tb xt).eq && cs.length == (tb xt).size) = true → ∀ b, eqCs cs es = some b → (eqGuard op xt x y (.agg vs) (.agg us)).run P w = .ok () w ∧ (Op.equalIn 10000 xt (.agg vs) (.agg us)).run P w = .ok b w := fun hc b hb => by
    simp only [Bool.and_eq_true, beq_iff_eq] at hc
    have ht := (hT xt).2 hc.1
    unfold eqTyB at ht
    split at ht
    · rename_i fs hu
      simp only [Bool.and_eq_true, Bool.not_eq_true'] at ht
      obtain ⟨⟨t1, t2⟩, t3⟩ := ht
      have hfs : P.fieldsOf xt = fs := by simp [Program.fieldsOf, hu]
      have hl := eqFsB_len fs.toList 0 t3
      refine ⟨run_eqGuard_agg w op xt x y vs us t2, ?_⟩
      rw [show (10000 : Nat) = 9999 + 1 from rfl, run_equalIn_agg w 9999 xt vs us (by rw [hfs]; exact hu) t1, hfs]
      exact eqFs_run (f := valAt ts) 9998 fs.toList 0 t3 (by omega) hb (by simpa using h1) (by simpa using h2)
    · cases ht
  unfold eqA at hb
  split at hb
  · rename_i hc
    obtain ⟨g1, g2⟩ := key hc b hb
    refine ⟨.bool b, w, _, fun dst pos after guard => .inl ?_, h.see (x := .one (.cell (.sc (.bool b)))) ⟨rfl, rfl, rfl⟩⟩
    simp only [execOp, e1, e2, Sem.run_bind, g1, Result.andThen_ok, run_eql_struct, g2]
    rfl
  · rename_i hc
    simp only [Option.map_eq_some_iff] at hb
    obtain ⟨b', hb, rfl⟩ := hb
    obtain ⟨g1, g2⟩ := key hc b' hb
    refine ⟨.bool (!b'), w, _, fun dst pos after guard => .inl ?_, h.see (x := .one (.cell (.sc (.bool (!b'))))) ⟨rfl, rfl, rfl⟩⟩
    simp only [execOp, e1, e2, Sem.run_bind, g1, Result.andThen_ok, run_neq_struct, g2]
    rfl
  · cases hb

theorem opV_sound (hT : TbOk P tb) (h : RelW φ w0 F0 sl fx ts fv w) {ty : TypeId} {op : Op} {cs : List Prop} {x : SV} {sl' : Sl}
    (hx : opV tb sl ty op = some (cs, x, sl')) (hc : ∀ p ∈ cs, p) : Sound P w0 F0 ts ds w op ty x sl' := by
  cases op with
  | move o => exact move_sound h hx
  | assign o =>
    simp only [opV, Option.map_eq_some_iff, Prod.mk.injEq] at hx
    obtain ⟨⟨y, s⟩, h1, -, h2⟩ := hx
    cases h2
    exact assign_sound h h1
  | alloc e =>
    simp only [opV] at hx
    split at hx
    · cases hx
    · rename_i hk
      cases hx
      exact alloc_sound hT h hk _
  | box e o =>
    simp only [opV] at hx
    split at hx
    · rename_i v s hv
      simp only [Option.map_eq_some_iff, Prod.mk.injEq] at hx
      obtain ⟨c, h1, -, rfl, rfl⟩ := hx
      exact box_sound h hv h1
    · cases hx
  | load t a =>
    simp only [opV] at hx
    split at hx
    · rename_i p hp
      simp only [Option.map_eq_some_iff, Prod.mk.injEq] at hx
      obtain ⟨⟨c, y⟩, h1, rfl, rfl, rfl⟩ := hx
      exact load_sound hT h hp h1 hc
    · cases hx
  | store t a x => exact store_sound hT h hx hc
  | nilCheck x => exact nil_sound h hx
  | binOp op xt x y yt =>
    simp only [opV] at hx
    split at hx
    · rename_i v hn hv
      split at hx
      · rename_i sz es hd
        cases hx
        exact nilEq_sound hT h hn hv hd
      · cases hx
    · cases hx
    · split at hx
      · rename_i u v hu hv
        simp only [Option.map_eq_some_iff, Prod.mk.injEq] at hx
        obtain ⟨⟨c, y⟩, h1, rfl, rfl, rfl⟩ := hx
        exact bin_sound hT h hu hv h1 hc
      · rename_i cs' ds' hu hv
        simp only [Option.map_eq_some_iff, Prod.mk.injEq] at hx
        obtain ⟨r, h1, -, rfl, rfl⟩ := hx
        exact eqA_sound hT h hu hv h1
      · cases hx
  | unOp op xt x =>
    simp only [opV] at hx
    split at hx
    · rename_i u hu
      simp only [Option.map_eq_some_iff, Prod.mk.injEq] at hx
      obtain ⟨r, h1, -, rfl, rfl⟩ := hx
      exact un_sound h hu h1
    · cases hx
  | convert src dst x =>
    simp only [opV] at hx
    split at hx
    · rename_i k u hk hu
      simp only [Option.map_eq_some_iff, Prod.mk.injEq] at hx
      obtain ⟨r, h1, -, rfl, rfl⟩ := hx
      exact conv_sound hT h hu ⟨_, hk⟩ h1
    · cases hx
  | makeSlice t l c => exact make_sound hT h hx hc
  | slice t x lo hi mx => exact slice_sound hT h hx hc
  | fieldAddr t x f => exact field_sound hT h hx
  | indexAddr t x i => exact index_sound hT h hx hc
  | extract x i => exact extract_sound h hx
  | build t ps => exact build_sound hT h hx
  | buildSlice t len ps => exact buildSlice_sound hT h hx
  | makeFunc fn a b => exact makeFunc_sound h hx
  | _ => cases hx

/-- The frame is of the size it had; what is pinned has not been assigned. -/
def Pin (C : Cfg) (ts0 ts : Array Value) : Prop := ts.size = ts0.size ∧ ∀ t ∈ C.pin, valAt ts t = valAt ts0 t
theorem Pin.put {C : Cfg} {ts0 ts : Array Value} {d : Nat} {v : Value} (h : Pin C ts0 ts) (hd : ∀ t ∈ C.pin, t ≠ d) : Pin C ts0 (ts.setIfInBounds d v) :=
  ⟨by simpa using h.1, fun t ht => by rw [valAt_set_ne (hd t ht)]; exact h.2 t ht⟩
/-- A state of the walk: the slots sl describe the frame; what is pinned has not been assigned. -/
def St (C : Cfg) (w0 : World) (F0 : List Nat) (ts0 : Array Value) (sl : Sl) (a : Act) (w : World) : Prop :=
  ∃ φ fx fv, RelW φ w0 F0 sl fx a.tmps fv w ∧ a.defers = [] ∧ Pin C ts0 a.tmps
def Post (C : Cfg) (w0 : World) (F0 : List Nat) (ts0 : Array Value) (K : Sl → Prop) : Act → World → Prop := fun a w => ∃ sl, K sl ∧ St C w0 F0 ts0 sl a w

variable {C : Cfg} {ts0 : Array Value} {K : Sl → Prop} {Q : Exit → Act → World → Prop}

theorem put_post {dst : Option Nat} {x : SV} {v : Value} {a : Act} (h : RelW φ w0 F0 sl x a.tmps v w) (hd : a.defers = []) (hp : Pin C ts0 a.tmps)
    (hk : putK C.pin sl dst x K) : Post C w0 F0 ts0 K (a.put dst v) w := by
  obtain ⟨h1, h2⟩ := putK_put hk
  cases dst with
  | none => exact ⟨sl, h2, φ, x, v, h, hd, hp⟩
  | some d =>
    obtain ⟨φ', hr⟩ := h.land d
    exact ⟨_, h2, φ', .dead, v, hr, hd, hp.put fun t ht e => h1 t ht (by rw [e])⟩

theorem outK_post {part : Bool} {c : List Prop} {dst : Option Nat} {x : SV} {v : Value} {a : Act} (h : RelW φ w0 F0 sl x a.tmps v w) (hd : a.defers = []) (hp : Pin C ts0 a.tmps)
    (hk : outK C.pin part c x sl dst K) : Post C w0 F0 ts0 K (a.put dst v) w := by
  unfold outK at hk
  rw [conjK_iff] at hk
  have hk := hk.2
  match part, x, h, hk with
  | false, x, h, hk => exact put_post h hd hp (by simpa using hk)
  | true, .dead, h, hk => exact put_post h hd hp hk
  | true, .und, h, hk => exact put_post h hd hp hk
  | true, .tup _, h, hk => exact put_post h hd hp hk
  | true, .box _, h, hk => exact put_post h hd hp hk
  | true, .ptr _ _ _, h, hk => exact put_post h hd hp hk
  | true, .rptr _, h, hk => exact put_post h hd hp hk
  | true, .cloR _ _, h, hk => exact put_post h hd hp hk
  | true, .cloS _ _, h, hk => exact put_post h hd hp hk
  | true, .one (.agg _), h, hk => exact put_post h hd hp hk
  | true, .one (.cell .un), h, hk => exact put_post h hd hp hk
  | true, .one (.cell (.rd _)), h, hk => exact put_post h hd hp hk
  | true, .one (.cell (.own _)), h, hk => exact put_post h hd hp hk
  | true, .one (.cell (.ref _ _ _)), h, hk => exact put_post h hd hp hk
  | true, .one (.cell (.sub _ _ _ _)), h, hk => exact put_post h hd hp hk
  | true, .one (.cell (.nb _)), h, hk => exact put_post h hd hp hk
  | true, .one (.cell (.hd _ _)), h, hk => exact put_post h hd hp hk
  | true, .one (.cell (.sc v)), h, hk =>
    cases v with
    | bool b =>
      cases b with
      | true => exact put_post h hd hp (hk.1 rfl)
      | false => exact put_post h hd hp (hk.2 rfl)
    | _ => exact put_post h hd hp hk

theorem wp_of_yields {o : Oper} {a : Act} {v : Value} (h : Yields P o.op o.type a.eval w v w') (hk : Post C w0 F0 ts0 K (a.put o.dst v) w') : o.wp P a w (Post C w0 F0 ts0 K) Q := by
  unfold Oper.wp
  rcases h o.dst o.pos o.after o.guard with g | ⟨g, e⟩
  · have : (execOp a.eval o).run P w = .ok (.value v) w' := g
    rw [this]; exact hk
  · have : (execOp a.eval o).run P w = .ok .skip w' := g
    rw [this]; rw [e] at hk; exact hk

/-- Arguments lent to a callee. -/
theorem lent_rel {f g : Nat → Value} {v : Value} {χ : List Nat} {c : CV} (h : CVRel w φ f v χ c) : CVRel w (fun _ => []) g v [] c.lent := by
  cases c with
  | un => exact trivial
  | sc u => exact ⟨h.1, h.2.1, rfl⟩
  | rd d => obtain ⟨-, bs, h1, -⟩ := h; exact ⟨rfl, bs, h1, fun _ _ _ => by simp⟩
  | own d => exact ⟨rfl, χ, Rd.weaken h, fun _ _ _ => by simp⟩
  | ref s p d => obtain ⟨-, -, bs, h1, -⟩ := h; exact ⟨rfl, bs, h1, fun _ _ _ => by simp⟩
  | sub s p lo d => obtain ⟨-, a, n, cap, a', n', cap', bs, -, -, -, h1, -⟩ := h; exact ⟨rfl, bs, h1, fun _ _ _ => by simp⟩
  | nb es => exact ⟨rfl, h.2⟩
  | hd s p => exact trivial

theorem lents_rel {f g : Nat → Value} {vs : List Value} {χ : List Nat} {cs : List CV} (h : CVs w φ f vs cs χ) : CVs w (fun _ => []) g vs (cs.map CV.lent) [] := by
  induction h with
  | nil => exact .nil
  | cons h _ ih => simpa using CVs.cons (lent_rel (g := g) h) ih

theorem ptr_lent {v : Value} {es : List DV} (h : PtrRd w φ v es) : PtrRd w (fun _ => []) v es := by
  obtain ⟨b, o, vs, bs, h1, h2, h3, h4, _, _⟩ := h
  exact ⟨b, o, vs, bs, h1, h2, h3, h4, fun _ => by simp, fun _ _ _ => by simp⟩
theorem ptrs_lent {vs : List Value} {cs : List (List DV)} (h : PtrRds w φ vs cs) : PtrRds w (fun _ => []) vs cs := by
  induction h with
  | nil => exact .nil
  | cons h _ ih => exact .cons (ptr_lent h) ih

theorem argV_rel {g : Nat → Value} (h : RelW φ w0 F0 sl fx ts fv w) {ty : TypeId} {o : Operand} {x y : SV} (hx : opView tb ty sl o = some x) (hy : argV sl x = some y) :
    SlotRel w (fun _ => []) g (Act.eval ⟨ts, ds⟩ o) [] y :=
  argV_apart (X := []) h (fun _ b hb => by cases hb) (fun b _ hb => by cases hb) hx hy (fun _ _ b _ hb => by cases hb) (fun _ _ _ _ b _ hb => by cases hb)

theorem argsV_rel {g : Nat → Value} (h : RelW φ w0 F0 sl fx ts fv w) : ∀ (os : List Operand) (tys : List TypeId) (args : List SV), argsV tb sl tys os = some args →
    args.length = os.length ∧ ∀ (i : Nat) (x : SV), args[i]? = some x → ∃ o : Operand, os[i]? = some o ∧ SlotRel w (fun _ => []) g (Act.eval ⟨ts, ds⟩ o) [] x
  | [], tys, args, hx => by
    simp only [argsV, Option.some.injEq] at hx
    subst hx
    exact ⟨rfl, fun i x hi => by simp at hi⟩
  | o :: os, tys, args, hx => by
    simp only [argsV] at hx
    split at hx
    · rename_i v vs h1 h2
      cases hx
      simp only [Option.bind_eq_some_iff] at h1
      obtain ⟨x, h3, h4⟩ := h1
      obtain ⟨g1, g2⟩ := argsV_rel h os _ vs h2
      refine ⟨by simp [g1], fun i y hi => ?_⟩
      cases i with
      | zero =>
        simp only [List.getElem?_cons_zero, Option.some.injEq] at hi
        subst hi
        exact ⟨o, rfl, argV_rel h h3 h4⟩
      | succ i =>
        simp only [List.getElem?_cons_succ] at hi
        obtain ⟨o', g3, g4⟩ := g2 i y hi
        exact ⟨o', by simpa using g3, g4⟩
    · cases hx

theorem exCs_ex : ∀ (zs : List CV) {K : List CV → Prop}, exCs zs K → ∃ cs, K cs ∧ cs.length = zs.length ∧ (zs.all CV.fitR = true → cs.all CV.fitR = true)
  | [], K, h => ⟨[], h, rfl, fun _ => rfl⟩
  | z :: zs, K, h => by
    have same : (exCs zs fun cs => K (z :: cs)) → ∃ cs, K cs ∧ cs.length = (z :: zs).length ∧ ((z :: zs).all CV.fitR = true → cs.all CV.fitR = true) := fun h => by
      obtain ⟨cs, h, l, g⟩ := exCs_ex zs h
      exact ⟨_, h, by simp [l], fun hz => by simp only [List.all_cons, Bool.and_eq_true] at hz ⊢; exact ⟨hz.1, g hz.2⟩⟩
    have other : ∀ y : CV, (z.fitR = true → y.fitR = true) → (exCs zs fun cs => K (y :: cs)) → ∃ cs, K cs ∧ cs.length = (z :: zs).length ∧ ((z :: zs).all CV.fitR = true → cs.all CV.fitR = true) := fun y hy h => by
      obtain ⟨cs, h, l, g⟩ := exCs_ex zs h
      exact ⟨_, h, by simp [l], fun hz => by simp only [List.all_cons, Bool.and_eq_true] at hz ⊢; exact ⟨hy hz.1, g hz.2⟩⟩
    cases z with
    | un => exact same h
    | sc v => cases v with
      | int k n => obtain ⟨n, h⟩ := h; exact other _ (fun _ => rfl) h
      | bool n => obtain ⟨n, h⟩ := h; exact other _ (fun _ => rfl) h
      | string n => obtain ⟨n, h⟩ := h; exact other _ (fun _ => rfl) h
      | _ => exact same h
    | rd d => cases d with
      | val v => exact same h
      | sl sz es => obtain ⟨n, h⟩ := h; exact other (.rd (.sl sz n)) (fun hz => hz) h
    | own d => cases d with
      | val v => exact same h
      | sl sz es => obtain ⟨n, h⟩ := h; exact other (.own (.sl sz n)) (fun hz => hz) h
    | ref s p d => exact same h
    | sub s p lo d => exact same h
    | nb es => exact same h
    | hd s p => exact same h

theorem splitCs_self : ∀ (cs : List CV) {K : List CV → Prop}, splitCs cs K → K cs
  | [], K, h => h
  | c :: cs, K, h => by
    have same : (splitCs cs fun cs => K (c :: cs)) → K (c :: cs) := fun h => splitCs_self cs h
    cases c with
    | sc v => cases v with
      | bool b => cases b with
        | true => exact same (h.1 rfl)
        | false => exact same (h.2 rfl)
      | _ => exact same h
    | _ => exact same h

theorem CVRel.fit {f g : Nat → Value} {φ2 : Option Nat → List Nat} {v : Value} {χ : List Nat} {c : CV} (h : CVRel w φ f v χ c) (hf : c.fit = true) : CVRel w φ2 g v χ c := by
  cases c with
  | sc u => exact h
  | own d => exact h
  | _ => simp [CV.fit] at hf
theorem CVs.fitTo {f g : Nat → Value} {φ2 : Option Nat → List Nat} {vs : List Value} {χ : List Nat} {cs : List CV} (h : CVs w φ f vs cs χ) (hf : cs.all CV.fit = true) : CVs w φ2 g vs cs χ := by
  induction h with
  | nil => exact .nil
  | cons h _ ih =>
    simp only [List.all_cons, Bool.and_eq_true] at hf
    exact .cons (h.fit hf.1) (ih hf.2)
def RV.fit : RV → Bool
  | .cell c => c.fit
  | .agg cs => cs.all CV.fit
theorem RVRel.fitTo {f g : Nat → Value} {φ2 : Option Nat → List Nat} {v : Value} {χ : List Nat} {r : RV} (h : RVRel w φ f v χ r) (hf : r.fit = true) : RVRel w φ2 g v χ r := by
  cases r with
  | cell c => exact CVRel.fit h hf
  | agg cs => obtain ⟨vs, h1, h2⟩ := h; exact ⟨vs, h1, h2.fitTo hf⟩
theorem RVs.fitTo {f g : Nat → Value} {φ2 : Option Nat → List Nat} {vs : List Value} {χ : List Nat} {rs : List RV} (h : RVs w φ f vs rs χ) (hf : rs.all RV.fit = true) : RVs w φ2 g vs rs χ := by
  induction h with
  | nil => exact .nil
  | cons h _ ih =>
    simp only [List.all_cons, Bool.and_eq_true] at hf
    exact .cons (h.fitTo hf.1) (ih hf.2)

def RV.fitR : RV → Bool
  | .cell c => c.fitR
  | .agg cs => cs.all CV.fitR
theorem chop_fit : ∀ (rs : List (Bool × List CV)) (cs : List CV), cs.all CV.fitR = true → cs.length = (rs.flatMap (·.2)).length → (∀ r ∈ rs, r.2 ≠ []) → (chop rs cs).all RV.fitR = true
  | [], _, _, _, _ => rfl
  | (a, zs) :: rs, cs, h, hl, hn => by
    simp only [chop, List.all_cons, Bool.and_eq_true]
    have hz : zs ≠ [] := hn (a, zs) (List.mem_cons_self ..)
    have hl' : cs.length = zs.length + (rs.flatMap (·.2)).length := by rw [hl, List.flatMap_cons, List.length_append]
    have hle : zs.length ≤ cs.length := by omega
    refine ⟨?_, chop_fit rs _ ?_ ?_ fun r hr => hn r (List.mem_cons_of_mem _ hr)⟩
    · have ht : (cs.take zs.length).all CV.fitR = true := List.all_eq_true.2 fun c hc => List.all_eq_true.1 h c (List.mem_of_mem_take hc)
      unfold mkRV
      split
      · exact ht
      · have : 0 < zs.length := List.length_pos_iff.2 hz
        cases hct : cs.take zs.length with
        | nil => have := congrArg List.length hct; rw [List.length_take] at this; simp only [List.length_nil] at this; omega
        | cons c r => rw [hct] at ht; simp only [List.all_cons, Bool.and_eq_true] at ht; exact ht.1
    · exact List.all_eq_true.2 fun c hc => List.all_eq_true.1 h c (List.mem_of_mem_drop hc)
    · rw [List.length_drop]; omega

end

end Go.Proofs.Ytckcehmggdnliaa.DL
