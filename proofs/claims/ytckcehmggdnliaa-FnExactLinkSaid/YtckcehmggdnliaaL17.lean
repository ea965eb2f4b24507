/- The data level, part 17: a step of a region; regions whose order is fixed. -/
import Derived.Test.YtckcehmggdnliaaL16a
namespace Go.Proofs.Ytckcehmggdnliaa.DL
open Go Go.RowKit

/-- A step with its guard. -/
def StepR (P : Program) (C : Cfg) (ops : List Oper) (o : Oper) (sl : Sl) (x : SV) (sl' : Sl) : Prop :=
  match o.guard with
  | none => OutR P C sl o x sl'
  | some (g, want) => ∃ t, guardT ops g = some t ∧ ((gt sl t = .one (.cell (.sc (.bool want))) ∧ OutR P C sl o x sl') ∨
      (gt sl t = .one (.cell (.sc (.bool !want))) ∧ x = .und ∧ sl' = sl) ∨ (gt sl t = .und ∧ x = .und ∧ sl' = sl))

section
variable {P : Program} {C : Cfg} {sl : Sl} {o : Oper} {K : Sl → Prop} {ops : List Oper}

theorem stepK_step (hb : boxIo C o = none) (h : stepK P C ops o sl K) : ∃ x sl', StepR P C ops o sl x sl' ∧ putK C.pin sl' o.dst x K := by
  unfold stepK at h
  rw [hb] at h
  dsimp only at h
  unfold StepR
  split at h
  · rename_i hg
    simp only [hg]
    exact opK_out h
  · rename_i g want hg
    simp only [hg]
    split at h
    · rename_i t ht
      split at h
      · rename_i b hb
        split at h
        · rename_i e
          subst e
          obtain ⟨x, sl', h1, h2⟩ := opK_out h
          exact ⟨x, sl', ⟨t, ht, .inl ⟨hb, h1⟩⟩, h2⟩
        · rename_i e
          refine ⟨.und, sl, ⟨t, ht, .inr (.inl ⟨?_, rfl, rfl⟩)⟩, h⟩
          rw [hb]
          cases b <;> cases want <;> first | rfl | exact absurd rfl e
      · rename_i hb
        exact ⟨.und, sl, ⟨t, ht, .inr (.inr ⟨hb, rfl, rfl⟩)⟩, h⟩
      · exact h.elim
    · exact h.elim
end

section
variable {P : Program} {C : Cfg} {w0 : World} {F0 : List Nat} {ts0 : Array Value} {sl : Sl} {ops : Array Oper} {o : Oper} {Q : Exit → Act → World → Prop} {K : Act → World → Prop}

theorem bool_ne_undef (b : Bool) : Value.bool b ≠ undef := by simp [undef]

theorem RelW.revive {φ : Option Nat → List Nat} {w : World} {fx : SV} {ts : Array Value} {fv : Value} (h : RelW φ w0 F0 sl fx ts fv w) (t : Nat) (hsl : ∀ y ∈ sl, t ∉ y.roots) (hfx : t ∉ fx.roots) {x : SV}
    (hx : SlotRel w (fun s => if s = some t then [] else φ s) (valAt ts) (valAt ts t) [] x) : RelW (fun s => if s = some t then [] else φ s) w0 F0 (sl.set t x) fx ts fv w := by
  have keep : ∀ (y : SV) (u : Value) (χ : List Nat), t ∉ y.roots → SlotRel w φ (valAt ts) u χ y → SlotRel w (fun s => if s = some t then [] else φ s) (valAt ts) u χ y := fun y u χ hy hr =>
    hr.kept ⟨Nat.le_refl _, fun _ _ => rfl, fun r hr' => by
      have hne : r ≠ t := fun e => hy (e ▸ hr')
      exact ⟨rfl, by simp [hne], fun _ _ => rfl⟩, fun b _ hf => ⟨rfl, fun s hs => by
        split at hs
        · cases hs
        · exact hf s hs⟩⟩
  refine ⟨by simp [h.len], fun s y hy => ?_, fun s => ?_, fun s s' hne b hb hb' => ?_, fun s b hb => ?_, h.ext⟩
  · cases s with
    | none =>
      cases hy
      simpa using keep _ _ _ hfx (h.slot none _ rfl)
    | some s =>
      simp only [sget] at hy
      by_cases e : s = t
      · subst e
        rw [List.getElem?_set] at hy
        simp only [if_true] at hy
        split at hy
        · cases hy
          simpa [vget] using hx
        · cases hy
      · rw [List.getElem?_set_ne (Ne.symm e)] at hy
        have := keep y _ _ (hsl y (List.mem_of_getElem? hy)) (h.slot (some s) y hy)
        simpa [vget, e] using this
  · split
    · exact .nil
    · exact h.nd s
  · split at hb
    · cases hb
    · split at hb'
      · cases hb'
      · exact h.dj s s' hne b hb hb'
  · split at hb
    · cases hb
    · exact h.lt s b hb

theorem hds_rel {w1 w : World} {φ1 φ : Option Nat → List Nat} {f1 f : Nat → Value} {d : Nat} : ∀ (cs : List CV) (k : Nat) {vs : List Value} {ψ : List Nat}, CVs w1 φ1 f1 vs cs ψ → cs.all CV.fit = true →
    (∀ (j : Nat) (v : Value), vs[j]? = some v → hdr w (φ (some d)) (f d) [k + j] = some v) → CVs w φ f vs (hdsOf d k cs) []
  | [], k, vs, ψ, h, _, _ => by cases h; exact .nil
  | c :: cs, k, vs, ψ, h, hf, hh => by
    cases h with
    | @cons v _ ψ1 vs _ ψ2 h1 h2 =>
    simp only [List.all_cons, Bool.and_eq_true] at hf
    have ih := hds_rel cs (k + 1) h2 hf.2 fun j u hj => by
      have := hh (j + 1) u (by simpa using hj)
      rwa [show k + (j + 1) = k + 1 + j by omega] at this
    cases c with
    | own x => exact .cons (ψ := []) ⟨rfl, by simpa using hh 0 v (by simp)⟩ ih
    | sc u => exact .cons (ψ := []) ⟨h1.1, h1.2.1, rfl⟩ ih
    | _ => simp [CV.fit] at hf

theorem rooted_none {d : Nat} : ∀ sl : Sl, rooted sl d = false → ∀ x ∈ sl, d ∉ x.roots
  | [], _, x, hx => by cases hx
  | y :: ys, h, x, hx => by
    simp only [rooted] at h
    by_cases hy : y.roots.contains d = true
    · rw [if_pos hy] at h; cases h
    · rw [if_neg hy] at h
      rcases List.mem_cons.1 hx with rfl | hx
      · simpa using hy
      · exact rooted_none ys h x hx
theorem rooted_of {d : Nat} : ∀ sl : Sl, (∀ x ∈ sl, d ∉ x.roots) → rooted sl d = false
  | [], _ => rfl
  | y :: ys, h => by
    simp only [rooted]
    have hy : ¬ y.roots.contains d = true := by simpa using h y (List.mem_cons_self ..)
    rw [if_neg hy]
    exact rooted_of ys fun x hx => h x (List.mem_cons_of_mem _ hx)
theorem boxIo_spec {t d : Nat} (h : boxIo C o = some (t, d)) : ∃ ty, o.op = .box ty (.tmp t) ∧ o.dst = some d := by
  unfold boxIo at h
  split at h
  · rename_i ty t' d' h1 h2
    split at h
    · simp only [Option.some.injEq, Prod.mk.injEq] at h
      obtain ⟨rfl, rfl⟩ := h
      exact ⟨ty, h1, h2⟩
    · cases h
  · cases h

/-- A struct that is written through is put into a box. -/
theorem boxK_wp {i t d : Nat} {a : Act} {w : World} {K' : Sl → Prop} (hi : ops[i]? = some o) (hb : boxIo C o = some (t, d)) (hk : boxK C o t d sl K') (h : St C w0 F0 ts0 sl a w)
    (hK : ∀ sl', K' sl' → ∀ a' w', St C w0 F0 ts0 sl' a' w' → K a' w') : wpOp P ops Q i K a w := by
  obtain ⟨ty, hop, hdst⟩ := boxIo_spec hb
  obtain ⟨φ, fx, fv, hr, hd, hp⟩ := h
  obtain ⟨ts, ds⟩ := a
  unfold boxK at hk
  split at hk
  · rename_i cs e
    split at hk
    · rename_i hc
      rw [forceL_eq] at hk
      simp only [Bool.and_eq_true, Bool.not_eq_true', Option.isNone_iff_eq_none, beq_eq_false_iff_ne] at hc
      obtain ⟨⟨⟨⟨hg, hfit, hown⟩, hrt, hrd⟩, hne, hdp⟩, hdl⟩ := hc
      have hdl : d < sl.length := Nat.le_of_ble_eq_true hdl
      have hne : d ≠ t := hne
      have hgt := gt_rel hr t
      rw [e] at hgt
      obtain ⟨vs, hv, hcs⟩ := hgt
      have hroots : ∀ c ∈ cs, c.roots = [] := fun c hc => by
        have := List.all_eq_true.1 hfit c hc
        cases c <;> simp_all [CV.fit, CV.roots]
      have hrcs : (SV.one (.agg cs)).roots = [] := List.flatMap_eq_nil_iff.2 hroots
      obtain ⟨φ1, h1⟩ := hr.take t
      have et : takeT sl t = (.one (.agg cs), sl.set t .dead) := by
        unfold takeT
        rw [e]
        have : (SV.one (.agg cs)).isOwn = true := hown
        rw [if_pos this]
        have k1 : killSV t (.one (.agg cs)) = .one (.agg cs) := by unfold killSV; rw [hrcs]; simp
        have k2 : killSV t SV.dead = .dead := by unfold killSV; split <;> rfl
        rw [k1]
        unfold putT
        rw [map_kill t sl hrt, k2]
      rw [et] at h1
      have hv' : valAt ts t = .agg vs := hv
      rw [hv'] at h1
      obtain ⟨vs', hv2, hcs'⟩ := h1.slot none _ rfl
      have hv2 : Value.agg vs = .agg vs' := hv2
      cases hv2
      obtain ⟨φ2, h2⟩ := h1.newBox (c := vs) (el := ty) hcs' hroots
      obtain ⟨φ3, h3⟩ := h2.land d
      have hin : ∀ y ∈ sl.set t .dead, d ∉ y.roots := fun y hy => by
        rcases List.mem_or_eq_of_mem_set hy with hy | rfl
        · exact rooted_none sl hrd y hy
        · intro h'; cases h'
      have eput : putT (sl.set t .dead) d (.box cs) = (sl.set t .dead).set d (.box cs) := by
        unfold putT
        rw [map_kill d _ (rooted_of _ hin)]
        congr 1
        unfold killSV
        have : (SV.box cs).roots = [] := List.flatMap_eq_nil_iff.2 hroots
        rw [this]; simp
      rw [eput] at h3
      have hdts : d < ts.size := by have := hr.len; have : ts.size = sl.length := this; omega
      have hbox := h3.slot (some d) (.box cs) (by
        simp only [sget]
        rw [List.getElem?_set_self (by simpa using hdl)])
      simp only [vget] at hbox
      have evd : valAt (ts.setIfInBounds d (.pointer (some ⟨w.heap.size, 0, none⟩))) d = .pointer (some ⟨w.heap.size, 0, none⟩) := by
        unfold valAt
        rw [Array.getD_eq_getD_getElem?, Array.getElem?_setIfInBounds_self_of_lt hdts]; rfl
      have evt : valAt (ts.setIfInBounds d (.pointer (some ⟨w.heap.size, 0, none⟩))) t = .agg vs := by
        rw [← hv']
        unfold valAt
        rw [Array.getD_eq_getD_getElem?, Array.getD_eq_getD_getElem?, Array.getElem?_setIfInBounds_ne hne]
      obtain ⟨-, b, c, el, ψs, g1, g2, g3, g4⟩ := hbox
      rw [evd] at g1
      have g1 : w.heap.size = b := by simpa using g1
      subst g1
      rw [heap_alloc_self] at g2
      cases g2
      have hdr1 : ∀ (j : Nat) (v : Value), vs.toList[j]? = some v → hdr (w.alloc (.cells vs ty)) ((fun s => if s = some t then [] else φ3 s) (some d)) (valAt (ts.setIfInBounds d (.pointer (some ⟨w.heap.size, 0, none⟩))) d) [0 + j] = some v := fun j v hj => by
        rw [evd]
        simp only [hdr, locOf]
        have : w.heap.size ∈ (if (some d : Option Nat) = some t then [] else φ3 (some d)) := by
          rw [if_neg (by simpa using hne), g4]
          exact List.mem_cons_self ..
        rw [if_pos this]
        have : (w.alloc (.cells vs ty)).cell? ⟨w.heap.size, 0 + (0 + j), none⟩ = vs.toList[j]? := by
          simp only [World.cell?, heap_alloc_self, Nat.zero_add]
          simp
        rw [this, hj]
        rfl
      have hlast := h3.revive t (x := .one (.agg (hdsOf d 0 cs))) (fun y hy => by
        rcases List.mem_or_eq_of_mem_set hy with hy | rfl
        · rcases List.mem_or_eq_of_mem_set hy with hy | rfl
          · exact rooted_none sl hrt y hy
          · intro h'; cases h'
        · have : (SV.box cs).roots = [] := List.flatMap_eq_nil_iff.2 hroots
          rw [this]; simp) (by simp [SV.roots]) ⟨vs, evt, hds_rel cs 0 hcs' hfit hdr1⟩
      rw [List.set_comm _ _ hne.symm, List.set_set] at hlast
      have hrun : (execOp (Act.eval ⟨ts, ds⟩) o).run P w = .ok (.value (.pointer (some ⟨w.heap.size, 0, none⟩))) (w.alloc (.cells vs ty)) := by
        have ev : Act.eval ⟨ts, ds⟩ (.tmp t) = .agg vs := hv'
        simp only [execOp, hop, ev]
        simp [Instr.box, newVar, newRow, newObj, Value.cells]
        rfl
      unfold wpOp
      rw [hi]
      have : Region.wanted o (yielded ops ts) = true := by simp [Region.wanted, hg]
      simp only [this, if_true]
      left
      unfold Oper.wp
      rw [hrun]
      show K (Act.put ⟨ts, ds⟩ o.dst _) _
      rw [hdst]
      exact hK _ hk _ _ ⟨_, .dead, _, hlast, hd, hp.put fun t' ht' e' => by
        have : C.pin.contains d = true := by subst e'; simpa using ht'
        rw [hdp] at this; cases this⟩
    · exact hk.elim
  · exact hk.elim

/-- One step, as the walk wants it. -/
theorem step_wp (hT : TbOk P C.tb) {i : Nat} {x : SV} {sl' : Sl} {a : Act} {w : World} (hi : ops[i]? = some o) (hs : StepR P C ops.toList o sl x sl')
    (hpin : ∀ t ∈ C.pin, o.dst ≠ some t) (h : St C w0 F0 ts0 sl a w) (hK : ∀ a' w', St C w0 F0 ts0 (put sl' o.dst x) a' w' → K a' w') : wpOp P ops Q i K a w := by
  obtain ⟨φ, fx, fv, hr, hd, hp⟩ := h
  have done : ∀ v w' φ', RelW φ' w0 F0 sl' x a.tmps v w' → K (a.put o.dst v) w' := fun v w' φ' h' => by
    refine hK _ _ ?_
    cases ho : o.dst with
    | none => exact ⟨φ', x, v, h', hd, hp⟩
    | some d =>
      obtain ⟨φ2, h2⟩ := h'.land d
      exact ⟨φ2, .dead, v, h2, hd, hp.put fun t ht e => hpin t ht (by rw [ho, e])⟩
  obtain ⟨ts, ds⟩ := a
  have go : OutR P C sl o x sl' → Oper.wp P o ⟨ts, ds⟩ w K Q := fun ho => out_wp hT ho hr done
  have skip : x = .und → sl' = sl → K (Act.put ⟨ts, ds⟩ o.dst undef) w := fun e1 e2 => by
    subst e1 e2
    exact done undef w _ (hr.see rfl)
  unfold wpOp
  rw [hi]
  unfold StepR at hs
  cases hg : o.guard with
  | none =>
    simp only [hg] at hs
    have : Region.wanted o (yielded ops ts) = true := by simp [Region.wanted, hg]
    simp only [this, if_true]
    exact .inl (go hs)
  | some gw =>
    obtain ⟨g, want⟩ := gw
    simp only [hg] at hs
    obtain ⟨t, ht, hs⟩ := hs
    have ht' : (ops[g]?).bind (·.dst) = some t := by simpa [guardT] using ht
    have val : ∀ b, gt sl t = .one (.cell (.sc (.bool b))) → yielded ops ts g = some b := fun b hb => by
      have hrel := gt_rel hr t
      rw [hb] at hrel
      obtain ⟨e, -, -⟩ := hrel
      unfold yielded
      rw [ht']
      simp only [Option.bind_some]
      unfold valAt at e
      cases hv : ts[t]? with
      | none => simp [Array.getD_eq_getD_getElem?, hv, undef] at e
      | some v => simp only [Array.getD_eq_getD_getElem?, hv, Option.getD_some] at e; rw [e]
    rcases hs with ⟨h1, h2⟩ | ⟨h1, h2, h3⟩ | ⟨h1, h2, h3⟩
    · have : Region.wanted o (yielded ops ts) = true := by simp [Region.wanted, hg, val _ h1]
      simp only [this, if_true]
      exact .inl (go h2)
    · have : Region.wanted o (yielded ops ts) = false := by simp [Region.wanted, hg, val _ h1]
      simp only [this, Bool.false_eq_true, if_false]
      exact skip h2 h3
    · have : Region.wanted o (yielded ops ts) = false := by
        have hrel := gt_rel hr t
        rw [h1] at hrel
        have hrel : valAt ts t = undef := hrel
        have hy : yielded ops ts g = none := by
          unfold yielded
          rw [ht']
          simp only [Option.bind_some]
          unfold valAt at hrel
          cases hv : ts[t]? with
          | none => rfl
          | some v =>
            simp only [Array.getD_eq_getD_getElem?, hv, Option.getD_some] at hrel
            rw [hrel]
            rfl
        simp [Region.wanted, hg, hy]
      simp only [this, Bool.false_eq_true, if_false]
      exact skip h2 h3

theorem stepK_wp (hT : TbOk P C.tb) {i : Nat} {a : Act} {w : World} {K' : Sl → Prop} (hi : ops[i]? = some o) (hk : stepK P C ops.toList o sl K') (h : St C w0 F0 ts0 sl a w)
    (hK : ∀ sl', K' sl' → ∀ a' w', St C w0 F0 ts0 sl' a' w' → K a' w') : wpOp P ops Q i K a w := by
  cases hb : boxIo C o with
  | some td =>
    obtain ⟨t, d⟩ := td
    refine boxK_wp hi hb ?_ h hK
    unfold stepK at hk
    rwa [hb] at hk
  | none =>
    obtain ⟨x, sl', h1, h2⟩ := stepK_step hb hk
    obtain ⟨h3, h4⟩ := putK_put h2
    exact step_wp hT hi h1 h3 h (hK _ h4)
theorem boxIo_isX {C : Cfg} {o : Oper} (h : isX C o = false) : boxIo C o = none := by
  unfold boxIo
  split
  · rename_i ty t d h1 h2
    unfold isX at h
    rw [h1] at h
    dsimp only at h
    rw [h]; rfl
  · rfl

theorem opsK_wp (hT : TbOk P C.tb) {K' : Sl → Prop} (hK : ∀ sl', K' sl' → ∀ a' w', St C w0 F0 ts0 sl' a' w' → Q .normal a' w') : ∀ (rest : List Oper) (k : Nat) (sl : Sl) (a : Act) (w : World),
    (∀ j, rest[j]? = ops[k + j]?) → opsK P C ops.toList rest sl K' → St C w0 F0 ts0 sl a w → wpOps P ops Q (List.range' k rest.length) a w
  | [], k, sl, a, w, _, hk, h => hK sl hk a w h
  | o :: rest, k, sl, a, w, he, hk, h => by
    rw [List.length_cons, List.range'_succ, wpOps_cons]
    have h0 := he 0
    simp only [List.getElem?_cons_zero, Nat.add_zero] at h0
    refine stepK_wp hT h0.symm hk h fun sl' hk' a' w' h' => opsK_wp hT hK rest (k + 1) sl' a' w' (fun j => ?_) hk' h'
    have := he (j + 1)
    simp only [List.getElem?_cons_succ] at this
    rw [this]; congr 1; omega

theorem region_wp (hT : TbOk P C.tb) {id : Nat} {K' : Sl → Prop} {a : Act} {w : World} (hk : opsK P C ops.toList ops.toList sl K') (h : St C w0 F0 ts0 sl a w)
    (hK : ∀ sl', K' sl' → ∀ a' w', St C w0 F0 ts0 sl' a' w' → Q .normal a' w') : (Code.region id ops false).wp P Q a w := by
  refine wp_region ?_
  have := opsK_wp hT hK ops.toList 0 sl a w (fun j => by simp) hk h
  rwa [Array.length_toList, ← List.range_eq_range'] at this
end
end Go.Proofs.Ytckcehmggdnliaa.DL
