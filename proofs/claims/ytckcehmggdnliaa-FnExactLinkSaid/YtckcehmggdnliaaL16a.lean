/- The data level, part 16a: operations that write, or move; every operation. -/
import Derived.Test.YtckcehmggdnliaaL16
namespace Go.Proofs.Ytckcehmggdnliaa.DL
open Go Go.RowKit

/-- What is asked of a call that writes through an argument. -/
structure IoR (P : Program) (C : Cfg) (sl : Sl) (f : FuncId) (i : Nat) (tys : List TypeId) (os : List Operand) (c : List Prop) (s : Nat) (p : List Nat) (y x0 : SV) (zs : List CV) (xo : Operand) (as : List SV) (cs ws : List CV) : Prop where
  hxo : os[i]? = some xo
  hx0 : opView C.tb (tys.getD i 0) sl xo = some x0
  hio : ioV sl x0 = some (c, s, p, y, zs)
  has : argsIo C.tb sl s i y 0 tys os = some as
  hok : (C.sg f).ok = true
  hcl : cs.length = (C.sg f).cells.length
  hcf : cs.all CV.fitR = true
  hwl : ws.length = zs.length
  hwf : ws.all CV.fit = true
  hc : ∀ q ∈ c, q
  call : CallD P f as fun r bs => r = (C.sg f).mk (cs.map CV.asOwn) ∧ bs.getD i .dead = ioSV y ws

def OutX (P : Program) (C : Cfg) (sl : Sl) (o : Oper) (x : SV) (sl' : Sl) : Prop :=
  match o.op with
  | .move (.tmp t) => takeT sl t = (x, sl')
  | .load t a => ∃ p, opView C.tb o.type sl a = some p ∧ loadMv C.tb t sl p = some (x, sl')
  | .call c => match c.callee with
    | .value (.func f) => ∃ i q s p y x0 zs xo as cs ws, IoR P C sl f i c.argTypes.toList c.args.toList q s p y x0 zs xo as cs ws ∧ x = (C.sg f).mk cs ∧ sl' = (sl.map (keepIo (isBox (gt sl s)) s p)).set s (ioPut y (gt sl s) p ws)
    | .value (.tmp t) => ∃ g caps args cs, gt sl t = .cloR g caps ∧ argsV C.tb sl c.argTypes.toList c.args.toList = some args ∧ C.dy.ok = true ∧ cs.length = C.dy.cells.length ∧ cs.all CV.fitR = true ∧
        CallD P g (args ++ caps.map SV.rptr) (fun r _ => r = C.dy.mk (cs.map CV.asOwn)) ∧ x = C.dy.mk cs ∧ sl' = sl
    | .builtin .append => ∃ t y z cs, c.argTypes.toList = [t, t] ∧ c.args.toList = [y, z] ∧ appV C.tb sl t y z = some (cs, x, sl') ∧ ∀ p ∈ cs, p
    | .builtin .copy => ∃ t t' y z cs, c.argTypes.toList = [t, t'] ∧ c.args.toList = [y, z] ∧ cpyV C.tb sl t y z = some (cs, x, sl') ∧ ∀ p ∈ cs, p
    | _ => False
  | _ => False
/-- What an operation whose guard is met brings: x into its slot, sl' the slots then. -/
def OutR (P : Program) (C : Cfg) (sl : Sl) (o : Oper) (x : SV) (sl' : Sl) : Prop := if isX C o = true then OutX P C sl o x sl' else OutR0 P C sl o x sl'

section
variable {P : Program} {C : Cfg} {sl : Sl} {o : Oper} {K : Sl → Prop}

theorem callK_out {pin : List Nat} {f : FuncId} {args : List SV} {rs : RS} {dst : Option Nat} (h : callK P pin f args rs dst sl K) :
    ∃ cs, rs.ok = true ∧ cs.length = rs.cells.length ∧ cs.all CV.fitR = true ∧ CallD P f args (fun r _ => r = rs.mk (cs.map CV.asOwn)) ∧ putK pin sl dst (rs.mk cs) K := by
  unfold callK at h
  split at h
  · exact h.elim
  · rename_i hok
    simp only [Bool.not_eq_false, Bool.and_eq_true] at hok
    obtain ⟨cs, ⟨h1, h2⟩, h3, h4⟩ := exCs_ex _ h
    exact ⟨cs, hok.1, h3, h4 hok.2, h1, splitCs_self _ h2⟩

theorem opX_out (h : opX P C sl o K) : ∃ x sl', OutX P C sl o x sl' ∧ putK C.pin sl' o.dst x K := by
  unfold opX at h
  unfold OutX
  generalize ho : o.op = op at h
  cases op with
  | move x =>
    cases x with
    | tmp t =>
      dsimp only at h ⊢
      rw [forceL_eq] at h
      exact ⟨_, _, rfl, h⟩
    | _ => exact h.elim
  | load t a =>
    dsimp only at h ⊢
    split at h
    · rename_i x sl' hx
      rw [forceL_eq] at h
      simp only [Option.bind_eq_some_iff] at hx
      obtain ⟨p, h1, h2⟩ := hx
      exact ⟨x, sl', ⟨p, h1, h2⟩, h⟩
    · exact h.elim
  | call c =>
    dsimp only at h ⊢
    cases hcal : c.callee with
    | value f =>
      rw [hcal] at h
      cases f with
      | func f =>
        dsimp only at h ⊢
        split at h
        · rename_i i hi
          unfold callIo at h
          split at h
          · rename_i q s p y zs hb
            split at h
            · rename_i as has
              split at h
              · exact h.elim
              · rename_i hok
                simp only [Bool.not_eq_false, Bool.and_eq_true] at hok
                rw [conjK_iff] at h
                obtain ⟨hq, h⟩ := h
                simp only [Option.bind_eq_some_iff] at hb
                obtain ⟨xo, e1, x0, e2, e3⟩ := hb
                obtain ⟨cs, h, h3, h4⟩ := exCs_ex _ h
                obtain ⟨ws, ⟨hwf, hcall, h⟩, h5, -⟩ := exCs_ex _ h
                have h := splitCs_self _ h
                rw [forceL_eq] at h
                exact ⟨_, _, ⟨i, q, s, p, y, x0, zs, xo, as, cs, ws, ⟨e1, e2, e3, has, hok.1.1, h3, h4 hok.1.2, h5, hwf, hq, hcall⟩, rfl, rfl⟩, h⟩
            · exact h.elim
          · exact h.elim
        · exact h.elim
      | tmp t =>
        dsimp only at h ⊢
        split at h
        · rename_i g caps args hg ha
          obtain ⟨cs, h1, h2, h3, h4, h5⟩ := callK_out h
          exact ⟨_, _, ⟨g, caps, args, cs, hg, ha, h1, h2, h3, h4, rfl, rfl⟩, h5⟩
        · exact h.elim
      | _ => exact h.elim
    | invoke r m => rw [hcal] at h; exact h.elim
    | builtin b =>
      rw [hcal] at h
      cases b with
      | append =>
        dsimp only at h ⊢
        split at h
        · rename_i t t' y z ht hy
          split at h
          · rename_i e
            have e : t = t' := by simpa using e
            subst e
            split at h
            · rename_i cs v sl' hv
              rw [conjK_iff, forceL_eq] at h
              exact ⟨v, sl', ⟨t, y, z, cs, ht, hy, hv, h.1⟩, h.2⟩
            · exact h.elim
          · exact h.elim
        · exact h.elim
      | copy =>
        dsimp only at h ⊢
        split at h
        · rename_i t t' y z ht hy
          split at h
          · rename_i cs v sl' hv
            rw [conjK_iff, forceL_eq] at h
            exact ⟨v, sl', ⟨t, t', y, z, cs, ht, hy, hv, h.1⟩, h.2⟩
          · exact h.elim
        · exact h.elim
      | _ => exact h.elim
  | _ => exact h.elim

theorem opK_out (h : opK P C sl o K) : ∃ x sl', OutR P C sl o x sl' ∧ putK C.pin sl' o.dst x K := by
  unfold opK at h
  unfold OutR
  split at h
  · rename_i hx
    simp only [hx, if_true]
    exact opX_out h
  · rename_i hx
    simp only [hx]
    exact opK0_out h
end

section
variable {P : Program} {C : Cfg} {tb : Tb} {φ : Option Nat → List Nat} {w0 w w' : World} {F0 : List Nat} {sl : Sl} {fx : SV} {ts : Array Value} {fv : Value} {ds : List Deferred} {Q : Exit → Act → World → Prop}

theorem argsIo_spec {s i : Nat} {y : SV} : ∀ (xs : List Operand) (k : Nat) (tys : List TypeId) (as : List SV), argsIo tb sl s i y k tys xs = some as →
    as.length = xs.length ∧ ∀ (j : Nat) (v : SV), as[j]? = some v → (k + j = i ∧ v = y) ∨ (k + j ≠ i ∧ ∃ o x ty, xs[j]? = some o ∧ opView tb ty sl o = some x ∧ s ∉ x.roots ∧ argV sl x = some v)
  | [], k, tys, as, h => by
    simp only [argsIo, Option.some.injEq] at h
    subst h
    exact ⟨rfl, fun j v hj => by simp at hj⟩
  | x :: xs, k, tys, as, h => by
    simp only [argsIo] at h
    split at h
    · rename_i v vs h1 h2
      cases h
      obtain ⟨g1, g2⟩ := argsIo_spec xs (k + 1) tys.tail vs h2
      refine ⟨by simp [g1], fun j u hj => ?_⟩
      cases j with
      | zero =>
        simp only [List.getElem?_cons_zero, Option.some.injEq] at hj
        subst hj
        split at h1
        · rename_i e
          cases h1
          exact .inl ⟨e, rfl⟩
        · rename_i e
          refine .inr ⟨e, ?_⟩
          split at h1
          · rename_i z hz
            split at h1
            · cases h1
            · rename_i hr
              exact ⟨x, z, _, rfl, hz, by simpa using hr, h1⟩
          · cases h1
      | succ j =>
        simp only [List.getElem?_cons_succ] at hj
        rcases g2 j u hj with ⟨e1, e2⟩ | ⟨e1, o, z, ty, e2, e3⟩
        · exact .inl ⟨by omega, e2⟩
        · exact .inr ⟨by omega, o, z, ty, by simpa using e2, e3⟩
    · cases h

theorem ioV_agg {x : SV} {c : List Prop} {s : Nat} {p : List Nat} {y : SV} {zs : List CV} (h : ioV sl x = some (c, s, p, y, zs)) : ∀ cs, gt sl s ≠ .one (.agg cs) := by
  intro cs e
  unfold ioV at h
  split at h
  · split at h
    · rename_i hd; cases h; rw [hd] at e; cases e
    · rename_i hd
      split at h
      · cases h; rw [hd] at e; cases e
      · cases h
    · cases h
  · split at h
    · rename_i hd
      split at h
      · cases h; rw [hd] at e; cases e
      · cases h
    · cases h
  · split at h
    · split at h
      · rename_i hd
        simp only [Option.map_eq_some_iff, Prod.mk.injEq] at h
        obtain ⟨ys, -, -, rfl, -⟩ := h
        rw [hd] at e; cases e
      · cases h
    · cases h
  · cases h
theorem ioV_rel (h : RelW φ w0 F0 sl fx ts fv w) {ty : TypeId} {o : Operand} {x : SV} {c : List Prop} {s : Nat} {p : List Nat} {y : SV} {zs : List CV} (hx : opView tb ty sl o = some x) (hio : ioV sl x = some (c, s, p, y, zs)) :
    SlotRel w φ (valAt ts) (Act.eval ⟨ts, ds⟩ o) [] x := by
  unfold ioV at hio
  split at hio
  · exact opView_rel h hx rfl
  · exact opView_rel h hx rfl
  · rename_i xs
    split at hio
    · split at hio
      · simp only [Option.map_eq_some_iff, Prod.mk.injEq] at hio
        obtain ⟨ys, hio, -⟩ := hio
        cases o with
        | tmp t =>
          simp only [opView, Option.some.injEq] at hx
          have hg := gt_rel h t
          have : ∃ cs0, gt sl t = .one (.agg cs0) ∧ xs = cs0.map (resC sl) := by
            unfold view at hx
            split at hx
            · cases hx
            · cases hx
            · rename_i cs0 e
              cases hx
              exact ⟨cs0, e, rfl⟩
            · cases hx
            · rename_i n1 n2 n3 n4
              exact absurd hx (n3 xs)
          obtain ⟨cs0, this, rfl⟩ := this
          rw [this] at hg
          obtain ⟨vs, h1, h2⟩ := hg
          have h3 := resCs_rel h h2
          rw [ioAgg_bare _ _ _ _ hio h3] at h3
          exact ⟨vs, h1, h3⟩
        | const v =>
          simp only [opView] at hx
          unfold constSV at hx
          split at hx <;> first | (cases hx; done) | (split at hx <;> cases hx) | cases hx
        | func f => simp [opView] at hx
        | global g => simp [opView] at hx
      · cases hio
    · cases hio
  · cases hio

theorem io_wp {o : Oper} {c : Call} {f : FuncId} {i : Nat} {q : List Prop} {s : Nat} {p : List Nat} {y x0 : SV} {zs : List CV} {xo : Operand} {as : List SV} {cs ws : List CV} (he : o.op = .call c) (hcal : c.callee = .value (.func f))
    (hr : IoR P C sl f i c.argTypes.toList c.args.toList q s p y x0 zs xo as cs ws) (h : RelW φ w0 F0 sl fx ts fv w) {K : Act → World → Prop}
    (hK : ∀ v w' φ', RelW φ' w0 F0 ((sl.map (keepIo (isBox (gt sl s)) s p)).set s (ioPut y (gt sl s) p ws)) ((C.sg f).mk cs) ts v w' → K (Act.put ⟨ts, ds⟩ o.dst v) w') : o.wp P ⟨ts, ds⟩ w K Q := by
  obtain ⟨hxo, hx0, hio, has, hok, hcl, hcf, hwl, hwf, hc, ⟨fn, c1, c2, c3⟩, h6⟩ := hr
  obtain ⟨χ, rest, hp, hslt, hyr, hbxr, hy, back⟩ := io_focus h (ioV_rel (ds := ds) h hx0 hio) hio hc
  have hnds := (hp.nodup_iff).1 (h.nd (some s))
  obtain ⟨nd1, nd2, nd3⟩ := List.nodup_append.1 hnds
  have inχ : ∀ b ∈ χ, b ∈ φ (some s) := fun b hb => hp.mem_iff.2 (by simp [hb])
  have inr : ∀ b ∈ rest, b ∈ φ (some s) := fun b hb => hp.mem_iff.2 (by simp [hb])
  obtain ⟨l1, l2⟩ := argsIo_spec c.args.toList 0 c.argTypes.toList as has
  have hil : i < as.length := by rw [l1]; exact (List.getElem?_eq_some_iff.1 hxo).1
  let φc : Option Nat → List Nat := fun t => if t = some i then χ else []
  have hφc : ∀ t, ∀ b ∈ φc t, b ∈ χ := fun t b hb => by
    simp only [φc] at hb
    split at hb
    · exact hb
    · cases hb
  have hF : ∀ b, b ∈ ((List.range as.length).flatMap fun t => φc (some t)) ↔ b ∈ χ := fun b => by
    constructor
    · intro hb
      obtain ⟨t, _, hb⟩ := List.mem_flatMap.1 hb
      exact hφc _ b hb
    · intro hb
      exact List.mem_flatMap.2 ⟨i, by simpa using hil, by simp [φc, hb]⟩
  have evA : ∀ j o', c.args.toList[j]? = some o' → valAt (c.args.map (Act.eval ⟨ts, ds⟩)) j = Act.eval ⟨ts, ds⟩ o' := fun j o' hj => by
    have : c.args[j]? = some o' := by simpa using hj
    simp [valAt, this]
  have harg : RelW φc w ((List.range as.length).flatMap fun t => φc (some t)) as .dead (c.args.map (Act.eval ⟨ts, ds⟩)) undef w := by
    refine ⟨by simpa using l1.symm, fun t x hx => ?_, fun t => ?_, fun t t' hne b hb hb' => ?_, fun t b hb => ⟨(h.lt _ b (inχ b (hφc t b hb))).1, .inr ((hF b).2 (hφc t b hb))⟩, Ext.refl _ _⟩
    · cases t with
      | none => cases hx; exact trivial
      | some j =>
        rcases l2 j x hx with ⟨e1, rfl⟩ | ⟨e1, o', z, ty, e2, e3, e4, e5⟩
        · have e1 : j = i := by omega
          subst e1
          simp only [vget, evA j xo hxo]
          have : φc (some j) = χ := by simp [φc]
          rw [this]
          exact hy _ _
        · have e1 : j ≠ i := by omega
          simp only [vget, evA j o' e2]
          have : φc (some j) = [] := by simp [φc, e1]
          rw [this]
          refine argV_apart (X := χ) h hφc (fun b hf hb => hf (some s) (inχ b hb)) e3 e5 (fun r hr b hb hb' => ?_) (fun t cs' e6 e7 b hb hb' => ?_)
          · have hrs : r ≠ s := fun e => e4 (e ▸ hr)
            exact h.dj (some r) (some s) (by simpa using hrs) b hb (inχ b hb')
          · have hts : t ≠ s := fun e => ioV_agg hio cs' (e ▸ e7)
            exact h.dj (some t) (some s) (by simpa using hts) b hb (inχ b hb')
    · simp only [φc]
      split
      · exact nd1
      · exact .nil
    · simp only [φc] at hb hb'
      split at hb
      · split at hb'
        · rename_i e e'; exact hne (e.trans e'.symm)
        · cases hb'
      · cases hb
  have c2' : fn.name ≠ "runtime.NumGoroutine" := by simpa using c2
  have c3' : fn.body ≠ none := fun e => by rw [e] at c3; cases c3
  have hrun : (execOp (Act.eval ⟨ts, ds⟩) o).run P w = .ok (.enter f (c.args.map (Act.eval ⟨ts, ds⟩))) w := by
    simp [execOp, he, resolve, hcal, Act.eval, Deferred.ofValue, invoke, callFunc, c1, c2', c3']
  unfold Oper.wp; rw [hrun]
  refine (h6 w _ φc harg (by simp [φc])).mono fun e w' ⟨v, r, args', φ', e1, ⟨e2, e2'⟩, e3, e4⟩ => ?_
  subst e1 e2
  have hext : Ext χ w w' := e4.ext.mono fun b hb _ => (hF b).1 hb
  have hexts : Ext (φ (some s)) w w' := hext.mono fun b hb _ => inχ b hb
  have hi' : args'[i]? = some (ioSV y ws) := by
    cases hq : args'[i]? with
    | none =>
      simp only [List.getD, hq, Option.getD_none] at e2'
      unfold ioSV at e2'
      split at e2' <;> cases e2'
    | some z => simp only [List.getD, hq, Option.getD_some] at e2'; rw [e2']
  have hrel' := e4.slot (some i) _ hi'
  simp only [vget, evA i xo hxo] at hrel'
  have hlt' : ∀ t, ∀ b ∈ φ' t, b < w'.heap.size ∧ (b ∈ χ ∨ w.heap.size ≤ b) := fun t b hb => ⟨(e4.lt t b hb).1, ((e4.lt t b hb).2.imp id (hF b).1).symm⟩
  obtain ⟨ψ', m1, m2⟩ := back w' (φ' (some i)) ws φ' _ hext.size (fun b hb => hext.block b (h.lt _ b (inr b hb)).1 fun hm => nd3 b hm b hb rfl) hwl hwf hrel' (fun b hb hf => hext.block b hb fun hm => hf (some s) (inχ b hm))
  obtain ⟨χr, s1, k1⟩ := mk_rel (g := valAt ts) hok hcl hcf (e4.nd none) (e4.slot none _ rfl)
  have inψ : ∀ b, b ∈ ψ' ↔ b ∈ φ' (some i) ∨ b ∈ rest := fun b => by rw [m1.mem_iff]; simp
  have hrestχ : ∀ b ∈ rest, b ∉ φ' none ∧ b ∉ φ' (some i) := fun b hb => by
    have hb1 := (h.lt _ b (inr b hb)).1
    refine ⟨fun hm => ?_, fun hm => ?_⟩
    · rcases (hlt' none b hm).2 with g | g
      · exact nd3 b g b hb rfl
      · omega
    · rcases (hlt' (some i) b hm).2 with g | g
      · exact nd3 b g b hb rfl
      · omega
  refine hK v w' _ (h.write2 s hslt (keep := keepIo (isBox (gt sl s)) s p) (ψ' := ψ') (ψy := χr) hexts ?_ (s1.nodup (e4.nd none)) ?_ ?_ ?_ (m2 _ ?_) (k1 _ ?_) (fun y hy => by simp [keepIo, hy]) ?_)
  · refine (m1.nodup_iff).2 (List.nodup_append.2 ⟨e4.nd _, nd2, fun a ha b hb e => (hrestχ b hb).2 (e ▸ ha)⟩)
  · intro b hb hb'
    have hb' := s1.subset hb'
    rcases (inψ b).1 hb with g | g
    · exact e4.dj (some i) none (by simp) b g hb'
    · exact (hrestχ b g).1 hb'
  · intro b hb
    rcases (inψ b).1 hb with g | g
    · exact ⟨(hlt' _ b g).1, (hlt' _ b g).2.imp (inχ b) id⟩
    · exact ⟨Nat.lt_of_lt_of_le (h.lt _ b (inr b g)).1 hext.size, .inl (inr b g)⟩
  · intro b hb
    exact ⟨(hlt' _ b (s1.subset hb)).1, (hlt' _ b (s1.subset hb)).2.imp (inχ b) id⟩
  · intro b hb hf t ht
    unfold landed2 at ht
    split at ht
    · rcases (inψ b).1 ht with g | g
      · rcases (hlt' _ b g).2 with g | g
        · exact hf _ (inχ b g)
        · omega
      · exact hf _ (inr b g)
    · split at ht
      · rcases (hlt' _ b (s1.subset ht)).2 with g | g
        · exact hf _ (inχ b g)
        · omega
      · exact hf t ht
  · intro b hb hb' t ht
    have hbn := hlt' none b hb
    unfold landed2 at ht
    split at ht
    · rcases (inψ b).1 ht with g | g
      · exact e4.dj (some i) none (by simp) b g hb
      · exact (hrestχ b g).1 hb
    · split at ht
      · exact hb' ht
      · rename_i e1 e2
        rcases hbn.2 with g | g
        · exact h.dj (some s) t (fun e => e1 e.symm) b (inχ b g) ht
        · have := (h.lt t b ht).1; omega
  · intro t z hts hz hr
    have hrel := h.slot (some t) z hz
    simp only [vget] at hrel
    have root1 : landed2 φ s ψ' χr (some s) = ψ' := by simp [landed2]
    have hdrs : ∀ i v, isBox (gt sl s) = true → p ≠ [] → hdr w (φ (some s)) (valAt ts s) [i] = some v → hdr w' ψ' (valAt ts s) [i] = some v := by
      intro i v hbx hpn hv
      obtain ⟨b0, hb0, hb1⟩ := hbxr hbx hpn
      rw [hb0] at hv ⊢
      simp only [hdr, locOf] at hv ⊢
      rw [if_pos (inr b0 hb1)] at hv
      rw [if_pos ((inψ b0).2 (.inr hb1)), World.cell?_of_block (w := w) (a := ⟨b0, 0 + i, none⟩) (hext.block b0 (h.lt _ b0 (inr b0 hb1)).1 fun hm => nd3 b0 hm b0 hb1 rfl)]
      exact hv
    have oneC : ∀ (v : Value) (ψ : List Nat) (c : CV), (∀ b ∈ ψ, b ∉ φ (some s) ∧ b < w.heap.size) → CVRel w φ (valAt ts) v ψ c → CVRel w' (landed2 φ s ψ' χr) (valAt ts) v ψ (keepIoC (isBox (gt sl s)) s p c) := by
      intro v ψ c hψ hc
      by_cases hs : s ∈ c.roots
      · have hroot : c.roots = [s] := root_of hs
        unfold keepIoC
        rw [if_pos hs]
        split
        · rename_i s'
          have : s' = s := by simpa [CV.roots] using hroot
          subst this
          exact ⟨hc.1, hc.2⟩
        · rename_i s' i
          have : s' = s := by simpa [CV.roots] using hroot
          subst this
          split
          · rename_i hbx
            exact ⟨hc.1, by rw [root1]; exact hdrs i _ hbx (by simp) hc.2⟩
          · exact trivial
        · exact trivial
      · have : keepIoC (isBox (gt sl s)) s p c = c := by simp [keepIoC, hs]
        rw [this]
        refine hc.kept ⟨hexts.size, fun b' hb' => hexts.block b' (hψ b' hb').2 (hψ b' hb').1, fun r hr => ?_, fun b' hb' hf => ⟨hexts.block b' hb' (hf (some s)), fun t ht => ?_⟩⟩
        · have hne : r ≠ s := fun e => hs (e ▸ hr)
          exact ⟨rfl, by simp [landed2, hne], fun b' hb' => hexts.block b' (h.lt _ b' hb').1 (h.dj (some r) (some s) (by simpa using hne) b' hb')⟩
        · unfold landed2 at ht
          split at ht
          · rcases (inψ b').1 ht with g | g
            · rcases (hlt' _ b' g).2 with g | g
              · exact hf _ (inχ b' g)
              · omega
            · exact hf _ (inr b' g)
          · split at ht
            · rcases (hlt' _ b' (s1.subset ht)).2 with g | g
              · exact hf _ (inχ b' g)
              · omega
            · exact hf t ht
    have hφt : ∀ b ∈ φ (some t), b ∉ φ (some s) ∧ b < w.heap.size := fun b' hb' => ⟨h.dj (some t) (some s) (by simpa using hts) b' hb', (h.lt _ b' hb').1⟩
    unfold keepIo
    rw [if_pos hr]
    split
    · rename_i s' j'
      have hs' : s = s' := by simpa [SV.roots] using hr
      subst hs'
      obtain ⟨g1, hh, b', o', g2, g3, g4⟩ := hrel
      exact ⟨g1, hh, b', o', by simpa [hdr] using g2, g3, g4⟩
    · exact oneC _ _ _ hφt hrel
    · rename_i cs0
      obtain ⟨vs0, g1, g2⟩ := hrel
      refine ⟨vs0, g1, ?_⟩
      have go : ∀ (vs : List Value) (cs : List CV) (ψ : List Nat), CVs w φ (valAt ts) vs cs ψ → (∀ b ∈ ψ, b ∉ φ (some s) ∧ b < w.heap.size) → CVs w' (landed2 φ s ψ' χr) (valAt ts) vs (cs.map (keepIoC (isBox (gt sl s)) s p)) ψ := by
        intro vs cs ψ hcv
        induction hcv with
        | nil => intro _; exact .nil
        | cons g1 _ ih =>
          intro hψ
          exact .cons (oneC _ _ _ (fun b' hb' => hψ b' (by simp [hb'])) g1) (ih fun b' hb' => hψ b' (by simp [hb']))
      exact go _ _ _ g2 hφt
    · exact trivial

theorem out_wp (hT : TbOk P C.tb) {o : Oper} {x : SV} {sl' : Sl} (ho : OutR P C sl o x sl') (h : RelW φ w0 F0 sl fx ts fv w) {K : Act → World → Prop}
    (hK : ∀ v w' φ', RelW φ' w0 F0 sl' x ts v w' → K (Act.put ⟨ts, ds⟩ o.dst v) w') : o.wp P ⟨ts, ds⟩ w K Q := by
  unfold OutR at ho
  split at ho
  · unfold OutX at ho
    generalize he : o.op = op at ho
    cases op with
    | move y =>
      cases y with
      | tmp t =>
        dsimp only at ho
        obtain ⟨φ', hr⟩ := h.take t
        rw [ho] at hr
        have hrun : (execOp (Act.eval ⟨ts, ds⟩) o).run P w = .ok (.value (valAt ts t)) w := by simp only [execOp, he]; rfl
        unfold Oper.wp; rw [hrun]
        exact hK _ _ _ hr
      | _ => exact ho.elim
    | load t a =>
      obtain ⟨p, h1, h2⟩ := ho
      obtain ⟨v, φ', h3, h4⟩ := loadMv_sound (ds := ds) hT h h1 h2
      have hrun : (execOp (Act.eval ⟨ts, ds⟩) o).run P w = .ok (.value v) w := by
        simp only [execOp, he]
        rw [Sem.run_bind, h3]
        rfl
      unfold Oper.wp; rw [hrun]
      exact hK _ _ _ h4
    | call c =>
      dsimp only at ho
      cases hcal : c.callee with
      | value f =>
        rw [hcal] at ho
        cases f with
        | func f =>
          obtain ⟨i, q, s, p, y, x0, zs, xo, as, cs, ws, hr, rfl, rfl⟩ := ho
          exact io_wp he hcal hr h hK
        | tmp t =>
          obtain ⟨g, caps, args, cs, h0, h1, h2, h3, h4, ⟨⟨fn, c1, c2, c3⟩, h6⟩, rfl, rfl⟩ := ho
          have hg := gt_rel h t
          rw [h0] at hg
          obtain ⟨-, ps, hv, hps⟩ := hg
          have c2' : fn.name ≠ "runtime.NumGoroutine" := by simpa using c2
          have c3' : fn.body ≠ none := fun e => by rw [e] at c3; cases c3
          have hev : Act.eval ⟨ts, ds⟩ (.tmp t) = .func (.func g) #[] ps := hv
          have hrun : (execOp (Act.eval ⟨ts, ds⟩) o).run P w = .ok (.enter g (c.args.map (Act.eval ⟨ts, ds⟩) ++ ps)) w := by
            simp [execOp, he, resolve, hcal, hev, Deferred.ofValue, invoke, callFunc, c1, c2', c3']
          unfold Oper.wp; rw [hrun]
          have hz : ((List.range (args ++ caps.map SV.rptr).length).flatMap fun t => (fun _ => [] : Option Nat → List Nat) (some t)) = [] := by simp
          have hargs := argsRel (ds := ds) h h1
          have hplen : ps.toList.length = caps.length := by
            clear h6 h0 hz
            generalize ps.toList = pl at hps
            induction hps with
            | nil => rfl
            | cons _ _ ih => simp [ih]
          have hall : RelW (fun _ => []) w [] (args ++ caps.map SV.rptr) .dead (c.args.map (Act.eval ⟨ts, ds⟩) ++ ps) undef w := by
            have hl := hargs.len
            refine ⟨by simp at hl hplen ⊢; omega, fun t x hx => ?_, fun _ => List.nodup_nil, fun _ _ _ b hb => (by cases hb), fun _ b hb => (by cases hb), Ext.refl _ _⟩
            cases t with
            | none => cases hx; exact trivial
            | some t =>
              simp only [sget] at hx
              by_cases ht : t < args.length
              · rw [List.getElem?_append_left ht] at hx
                have := hargs.slot (some t) x hx
                have e : valAt (c.args.map (Act.eval ⟨ts, ds⟩) ++ ps) t = valAt (c.args.map (Act.eval ⟨ts, ds⟩)) t := by
                  simp only [valAt, Array.getD_eq_getD_getElem?]
                  rw [Array.getElem?_append_left (by rw [hl]; exact ht)]
                simp only [vget] at this ⊢
                rw [e]
                have hcl : ∀ (f1 f2 : Nat → Value) (v : Value) (z : SV), z.roots = [] → SlotRel w (fun _ => []) f1 v [] z → SlotRel w (fun _ => []) f2 v [] z := fun f1 f2 v z hz hr =>
                  hr.kept ⟨Nat.le_refl _, fun _ _ => rfl, fun r hr' => (by rw [hz] at hr'; cases hr'), fun b hb hf => ⟨rfl, hf⟩⟩
                have h2' := (argsV_rel (g := valAt (c.args.map (Act.eval ⟨ts, ds⟩) ++ ps)) (ds := ds) h c.args.toList c.argTypes.toList args h1).2 t x hx
                obtain ⟨o', g1, g2⟩ := h2'
                have e2 : valAt (c.args.map (Act.eval ⟨ts, ds⟩)) t = Act.eval ⟨ts, ds⟩ o' := by
                  have : c.args[t]? = some o' := by simpa using g1
                  simp [valAt, this]
                rw [e2]
                exact g2
              · rw [List.getElem?_append_right (by omega)] at hx
                obtain ⟨es, hes, rfl⟩ : ∃ es, caps[t - args.length]? = some es ∧ SV.rptr es = x := by simpa [List.getElem?_map] using hx
                have hpt : ∀ {pl : List Value} {cl : List (List DV)} (k : Nat) (es : List DV), PtrRds w φ pl cl → cl[k]? = some es → ∃ v, pl[k]? = some v ∧ PtrRd w φ v es := by
                  intro pl cl k es hps
                  induction hps generalizing k with
                  | nil => intro hk; simp at hk
                  | cons h1 _ ih =>
                    intro hk
                    cases k with
                    | zero => simp at hk; subst hk; exact ⟨_, rfl, h1⟩
                    | succ k => simp at hk; obtain ⟨v, g1, g2⟩ := ih k hk; exact ⟨v, by simpa using g1, g2⟩
                obtain ⟨v, g1, g2⟩ := hpt _ _ hps hes
                have e : valAt (c.args.map (Act.eval ⟨ts, ds⟩) ++ ps) t = v := by
                  simp only [valAt, Array.getD_eq_getD_getElem?]
                  rw [Array.getElem?_append_right (by rw [hl]; omega), hl]
                  have : ps[t - args.length]? = some v := by simpa using g1
                  rw [this]; rfl
                simp only [vget]
                rw [e]
                exact ⟨rfl, ptr_lent g2⟩
          have := h6 w (c.args.map (Act.eval ⟨ts, ds⟩) ++ ps) (fun _ => []) (by rw [hz]; exact hall) rfl
          rw [hz] at this
          refine this.mono fun e w' ⟨v, r, args', φ', e1, e2, e3, e4⟩ => ?_
          subst e1 e2
          obtain ⟨χ', s1, k1⟩ := mk_rel (g := valAt ts) h2 h3 h4 (e4.nd none) (e4.slot none _ rfl)
          have new : ∀ b ∈ φ' none, w.heap.size ≤ b ∧ b < w'.heap.size := fun b hb => by
            refine ⟨?_, (e4.lt none b hb).1⟩
            rcases (e4.lt none b hb).2 with g | g
            · exact g
            · cases g
          refine hK v w' _ (h.fresh e4.ext (ψ := χ') (s1.nodup (e4.nd none)) (fun b hb => new b (s1.subset hb)) (k1 _ fun b hb hb' t ht => ?_))
          cases t with
          | none => exact hb' ht
          | some t => have := (h.lt (some t) b ht).1; have := (new b hb).1; omega
        | _ => exact ho.elim
      | invoke r m => rw [hcal] at ho; exact ho.elim
      | builtin b =>
        rw [hcal] at ho
        cases b with
        | append =>
          obtain ⟨t, y, z, cs, h0, h1, h2, h3⟩ := ho
          obtain ⟨u, w', φ', h4, h5⟩ := append_sound (P := P) (ds := ds) (ty := o.type) hT h h2 h3
          have e0 : c.argTypes = #[t, t] := by apply Array.ext'; simpa using h0
          have e1 : c.args.map (Act.eval ⟨ts, ds⟩) = #[Act.eval ⟨ts, ds⟩ y, Act.eval ⟨ts, ds⟩ z] := by apply Array.ext'; simp [h1]
          have hrun : (execOp (Act.eval ⟨ts, ds⟩) o).run P w = .ok (.value u) w' := by
            simp only [execOp, he, resolve, hcal, invoke, builtin, Sem.run_bind, Sem.run_pure, Result.andThen_ok, e0, e1, h4]
          unfold Oper.wp; rw [hrun]
          exact hK _ _ _ h5
        | copy =>
          obtain ⟨t, t', y, z, cs, h0, h1, h2, h3⟩ := ho
          obtain ⟨u, w', φ', h4, h5⟩ := copy_sound (P := P) (ds := ds) (ty := o.type) (t' := t') hT h h2 h3
          have e0 : c.argTypes = #[t, t'] := by apply Array.ext'; simpa using h0
          have e1 : c.args.map (Act.eval ⟨ts, ds⟩) = #[Act.eval ⟨ts, ds⟩ y, Act.eval ⟨ts, ds⟩ z] := by apply Array.ext'; simp [h1]
          have hrun : (execOp (Act.eval ⟨ts, ds⟩) o).run P w = .ok (.value u) w' := by
            simp only [execOp, he, resolve, hcal, invoke, builtin, Sem.run_bind, Sem.run_pure, Result.andThen_ok, e0, e1, h4]
          unfold Oper.wp; rw [hrun]
          exact hK _ _ _ h5
        | _ => exact ho.elim
    | _ => exact ho.elim
  · exact out0_wp hT ho h hK
end
end Go.Proofs.Ytckcehmggdnliaa.DL
