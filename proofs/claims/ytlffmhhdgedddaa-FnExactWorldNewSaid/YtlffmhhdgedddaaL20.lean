/- The library: parts L17 to L20. -/
import Derived.Test.YtlffmhhdgedddaaL16a
import Derived.Deep.LoopGhost
/- The data level, part 17: a step of a region; regions whose order is fixed. -/
namespace Go.Proofs.Ytlffmhhdgedddaa.DL
open Go Go.RowKit

/-- A step with its guard. -/
def StepR (P : Program) (C : Cfg) (ops : List Oper) (o : Oper) (sl : Sl) (x : SV) (sl' : Sl) : Prop :=
  match o.guard with
  | none => OutR P C sl o x sl'
  | some (g, want) => ∃ t, guardT ops g = some t ∧ ((gt sl t = .one (.cell (.sc (.bool want))) ∧ OutR P C sl o x sl') ∨
      (gt sl t = .one (.cell (.sc (.bool !want))) ∧ x = .und ∧ sl' = sl) ∨ (gt sl t = .und ∧ x = .und ∧ sl' = sl))

section
variable {P : Program} {C : Cfg} {sl : Sl} {o : Oper} {K : Sl → Prop} {ops : List Oper}

theorem set_gt {sl : Sl} {t : Nat} {x : SV} (h : gt sl t = x) : sl.set t x = sl := by
  unfold gt at h
  by_cases ht : t < sl.length
  · rw [List.getD_eq_getElem?_getD, List.getElem?_eq_getElem ht, Option.getD_some] at h
    rw [← h, List.set_getElem_self]
  · exact List.set_eq_of_length_le (Nat.le_of_not_lt ht)

theorem stepK_step (hb : boxIo C o = none) (h : stepK P C ops o sl K) : ∃ x sl', StepR P C ops o sl x sl' ∧ putK C.pin sl' o.dst x K := by
  unfold stepK at h
  rw [hb] at h
  dsimp only at h
  unfold StepR
  split at h
  · rename_i hg
    simp only [hg]
    exact opK_out h
  · rename_i g want hg
    simp only [hg]
    split at h
    · rename_i t ht
      split at h
      · rename_i b hb
        replace h : if b = want then opK P C sl o K else putK C.pin sl o.dst .und K := by
          split at h
          · have e := set_gt hb
            cases b
            · simp only [condB, forceL_eq] at h
              rwa [e] at h
            · simp only [condB, forceL_eq] at h
              rwa [e] at h
          · exact h
        split at h
        · rename_i e
          subst e
          obtain ⟨x, sl', h1, h2⟩ := opK_out h
          exact ⟨x, sl', ⟨t, ht, .inl ⟨hb, h1⟩⟩, h2⟩
        · rename_i e
          refine ⟨.und, sl, ⟨t, ht, .inr (.inl ⟨?_, rfl, rfl⟩)⟩, h⟩
          rw [hb]
          cases b <;> cases want <;> first | rfl | exact absurd rfl e
      · rename_i hb
        exact ⟨.und, sl, ⟨t, ht, .inr (.inr ⟨hb, rfl, rfl⟩)⟩, h⟩
      · exact h.elim
    · exact h.elim
end

section
variable {P : Program} {C : Cfg} {w0 : World} {F0 : List Nat} {ts0 : Array Value} {sl : Sl} {ops : Array Oper} {o : Oper} {Q : Exit → Act → World → Prop} {K : Act → World → Prop}

theorem bool_ne_undef (b : Bool) : Value.bool b ≠ undef := by simp [undef]

theorem RelW.revive {φ : Option Nat → List Nat} {w : World} {fx : SV} {ts : Array Value} {fv : Value} (h : RelW φ w0 F0 sl fx ts fv w) (t : Nat) (hsl : ∀ y ∈ sl, t ∉ y.roots) (hfx : t ∉ fx.roots) {x : SV}
    (hx : SlotRel w (fun s => if s = some t then [] else φ s) (valAt ts) (valAt ts t) [] x) : RelW (fun s => if s = some t then [] else φ s) w0 F0 (sl.set t x) fx ts fv w := by
  have keep : ∀ (y : SV) (u : Value) (χ : List Nat), t ∉ y.roots → SlotRel w φ (valAt ts) u χ y → SlotRel w (fun s => if s = some t then [] else φ s) (valAt ts) u χ y := fun y u χ hy hr =>
    hr.kept ⟨Nat.le_refl _, fun _ _ => rfl, fun r hr' => by
      have hne : r ≠ t := fun e => hy (e ▸ hr')
      exact ⟨rfl, by simp [hne], fun _ _ => rfl⟩, fun b _ hf => ⟨rfl, fun s hs => by
        split at hs
        · cases hs
        · exact hf s hs⟩⟩
  refine ⟨by simp [h.len], fun s y hy => ?_, fun s => ?_, fun s s' hne b hb hb' => ?_, fun s b hb => ?_, h.ext⟩
  · cases s with
    | none =>
      cases hy
      simpa using keep _ _ _ hfx (h.slot none _ rfl)
    | some s =>
      simp only [sget] at hy
      by_cases e : s = t
      · subst e
        rw [List.getElem?_set] at hy
        simp only [if_true] at hy
        split at hy
        · cases hy
          simpa [vget] using hx
        · cases hy
      · rw [List.getElem?_set_ne (Ne.symm e)] at hy
        have := keep y _ _ (hsl y (List.mem_of_getElem? hy)) (h.slot (some s) y hy)
        simpa [vget, e] using this
  · split
    · exact .nil
    · exact h.nd s
  · split at hb
    · cases hb
    · split at hb'
      · cases hb'
      · exact h.dj s s' hne b hb hb'
  · split at hb
    · cases hb
    · exact h.lt s b hb

theorem hds_rel {w1 w : World} {φ1 φ : Option Nat → List Nat} {f1 f : Nat → Value} {d : Nat} : ∀ (cs : List CV) (k : Nat) {vs : List Value} {ψ : List Nat}, CVs w1 φ1 f1 vs cs ψ → cs.all CV.fit = true →
    (∀ (j : Nat) (v : Value), vs[j]? = some v → hdr w (φ (some d)) (f d) [k + j] = some v) → CVs w φ f vs (hdsOf d k cs) []
  | [], k, vs, ψ, h, _, _ => by cases h; exact .nil
  | c :: cs, k, vs, ψ, h, hf, hh => by
    cases h with
    | @cons v _ ψ1 vs _ ψ2 h1 h2 =>
    simp only [List.all_cons, Bool.and_eq_true] at hf
    have ih := hds_rel cs (k + 1) h2 hf.2 fun j u hj => by
      have := hh (j + 1) u (by simpa using hj)
      rwa [show k + (j + 1) = k + 1 + j by omega] at this
    cases c with
    | own x => exact .cons (ψ := []) ⟨rfl, by simpa using hh 0 v (by simp)⟩ ih
    | sc u => exact .cons (ψ := []) ⟨h1.1, h1.2.1, rfl⟩ ih
    | _ => simp [CV.fit] at hf

theorem rooted_none {d : Nat} : ∀ sl : Sl, rooted sl d = false → ∀ x ∈ sl, d ∉ x.roots
  | [], _, x, hx => by cases hx
  | y :: ys, h, x, hx => by
    simp only [rooted] at h
    by_cases hy : y.roots.contains d = true
    · rw [if_pos hy] at h; cases h
    · rw [if_neg hy] at h
      rcases List.mem_cons.1 hx with rfl | hx
      · simpa using hy
      · exact rooted_none ys h x hx
theorem rooted_of {d : Nat} : ∀ sl : Sl, (∀ x ∈ sl, d ∉ x.roots) → rooted sl d = false
  | [], _ => rfl
  | y :: ys, h => by
    simp only [rooted]
    have hy : ¬ y.roots.contains d = true := by simpa using h y (List.mem_cons_self ..)
    rw [if_neg hy]
    exact rooted_of ys fun x hx => h x (List.mem_cons_of_mem _ hx)
theorem boxIo_spec {t d : Nat} (h : boxIo C o = some (t, d)) : ∃ ty, o.op = .box ty (.tmp t) ∧ o.dst = some d := by
  unfold boxIo at h
  split at h
  · rename_i ty t' d' h1 h2
    split at h
    · simp only [Option.some.injEq, Prod.mk.injEq] at h
      obtain ⟨rfl, rfl⟩ := h
      exact ⟨ty, h1, h2⟩
    · cases h
  · cases h

/-- A struct that is written through is put into a box. -/
theorem boxK_wp {i t d : Nat} {a : Act} {w : World} {K' : Sl → Prop} (hi : ops[i]? = some o) (hb : boxIo C o = some (t, d)) (hk : boxK C o t d sl K') (h : St C w0 F0 ts0 sl a w)
    (hK : ∀ sl', K' sl' → ∀ a' w', St C w0 F0 ts0 sl' a' w' → K a' w') : wpOp P ops Q i K a w := by
  obtain ⟨ty, hop, hdst⟩ := boxIo_spec hb
  obtain ⟨φ, fx, fv, hr, hd, hp⟩ := h
  obtain ⟨ts, ds⟩ := a
  unfold boxK at hk
  split at hk
  · rename_i cs e
    split at hk
    · rename_i hc
      rw [forceL_eq] at hk
      simp only [Bool.and_eq_true, Bool.not_eq_true', Option.isNone_iff_eq_none, beq_eq_false_iff_ne] at hc
      obtain ⟨⟨⟨⟨hg, hfit, hown⟩, hrt, hrd⟩, hne, hdp⟩, hdl⟩ := hc
      have hdl : d < sl.length := Nat.le_of_ble_eq_true hdl
      have hne : d ≠ t := hne
      have hgt := gt_rel hr t
      rw [e] at hgt
      obtain ⟨vs, hv, hcs⟩ := hgt
      have hroots : ∀ c ∈ cs, c.roots = [] := fun c hc => by
        have := List.all_eq_true.1 hfit c hc
        cases c <;> simp_all [CV.fit, CV.roots]
      have hrcs : (SV.one (.agg cs)).roots = [] := List.flatMap_eq_nil_iff.2 hroots
      obtain ⟨φ1, h1⟩ := hr.take t
      have et : takeT sl t = (.one (.agg cs), sl.set t .dead) := by
        unfold takeT
        rw [e]
        have : (SV.one (.agg cs)).isOwn = true := hown
        rw [if_pos this]
        have k1 : killSV t (.one (.agg cs)) = .one (.agg cs) := by unfold killSV; rw [hrcs]; simp
        have k2 : killSV t SV.dead = .dead := by unfold killSV; split <;> rfl
        rw [k1]
        unfold putT
        rw [map_kill t sl hrt, k2]
      rw [et] at h1
      have hv' : valAt ts t = .agg vs := hv
      rw [hv'] at h1
      obtain ⟨vs', hv2, hcs'⟩ := h1.slot none _ rfl
      have hv2 : Value.agg vs = .agg vs' := hv2
      cases hv2
      obtain ⟨φ2, h2⟩ := h1.newBox (c := vs) (el := ty) hcs' hroots
      obtain ⟨φ3, h3⟩ := h2.land d
      have hin : ∀ y ∈ sl.set t .dead, d ∉ y.roots := fun y hy => by
        rcases List.mem_or_eq_of_mem_set hy with hy | rfl
        · exact rooted_none sl hrd y hy
        · intro h'; cases h'
      have eput : putT (sl.set t .dead) d (.box cs) = (sl.set t .dead).set d (.box cs) := by
        unfold putT
        rw [map_kill d _ (rooted_of _ hin)]
        congr 1
        unfold killSV
        have : (SV.box cs).roots = [] := List.flatMap_eq_nil_iff.2 hroots
        rw [this]; simp
      rw [eput] at h3
      have hdts : d < ts.size := by have := hr.len; have : ts.size = sl.length := this; omega
      have hbox := h3.slot (some d) (.box cs) (by
        simp only [sget]
        rw [List.getElem?_set_self (by simpa using hdl)])
      simp only [vget] at hbox
      have evd : valAt (ts.setIfInBounds d (.pointer (some ⟨w.heap.size, 0, none⟩))) d = .pointer (some ⟨w.heap.size, 0, none⟩) := by
        unfold valAt
        rw [Array.getD_eq_getD_getElem?, Array.getElem?_setIfInBounds_self_of_lt hdts]; rfl
      have evt : valAt (ts.setIfInBounds d (.pointer (some ⟨w.heap.size, 0, none⟩))) t = .agg vs := by
        rw [← hv']
        unfold valAt
        rw [Array.getD_eq_getD_getElem?, Array.getD_eq_getD_getElem?, Array.getElem?_setIfInBounds_ne hne]
      obtain ⟨-, b, c, el, ψs, g1, g2, g3, g4⟩ := hbox
      rw [evd] at g1
      have g1 : w.heap.size = b := by simpa using g1
      subst g1
      rw [heap_alloc_self] at g2
      cases g2
      have hdr1 : ∀ (j : Nat) (v : Value), vs.toList[j]? = some v → hdr (w.alloc (.cells vs ty)) ((fun s => if s = some t then [] else φ3 s) (some d)) (valAt (ts.setIfInBounds d (.pointer (some ⟨w.heap.size, 0, none⟩))) d) [0 + j] = some v := fun j v hj => by
        rw [evd]
        simp only [hdr, locOf]
        have : w.heap.size ∈ (if (some d : Option Nat) = some t then [] else φ3 (some d)) := by
          rw [if_neg (by simpa using hne), g4]
          exact List.mem_cons_self ..
        rw [if_pos this]
        have : (w.alloc (.cells vs ty)).cell? ⟨w.heap.size, 0 + (0 + j), none⟩ = vs.toList[j]? := by
          simp only [World.cell?, heap_alloc_self, Nat.zero_add]
          simp
        rw [this, hj]
        rfl
      have hlast := h3.revive t (x := .one (.agg (hdsOf d 0 cs))) (fun y hy => by
        rcases List.mem_or_eq_of_mem_set hy with hy | rfl
        · rcases List.mem_or_eq_of_mem_set hy with hy | rfl
          · exact rooted_none sl hrt y hy
          · intro h'; cases h'
        · have : (SV.box cs).roots = [] := List.flatMap_eq_nil_iff.2 hroots
          rw [this]; simp) (by simp [SV.roots]) ⟨vs, evt, hds_rel cs 0 hcs' hfit hdr1⟩
      rw [List.set_comm _ _ hne.symm, List.set_set] at hlast
      have hrun : (execOp (Act.eval ⟨ts, ds⟩) o).run P w = .ok (.value (.pointer (some ⟨w.heap.size, 0, none⟩))) (w.alloc (.cells vs ty)) := by
        have ev : Act.eval ⟨ts, ds⟩ (.tmp t) = .agg vs := hv'
        simp only [execOp, hop, ev]
        simp [Instr.box, newVar, newRow, newObj, Value.cells]
        rfl
      unfold wpOp
      rw [hi]
      have : Region.wanted o (yielded ops ts) = true := by simp [Region.wanted, hg]
      simp only [this, if_true]
      left
      unfold Oper.wp
      rw [hrun]
      show K (Act.put ⟨ts, ds⟩ o.dst _) _
      rw [hdst]
      exact hK _ hk _ _ ⟨_, .dead, _, hlast, hd, hp.put fun t' ht' e' => by
        have : C.pin.contains d = true := by subst e'; simpa using ht'
        rw [hdp] at this; cases this⟩
    · exact hk.elim
  · exact hk.elim

/-- One step, as the walk wants it. -/
theorem step_wp (hT : TbOk P C.tb) {i : Nat} {x : SV} {sl' : Sl} {a : Act} {w : World} (hi : ops[i]? = some o) (hs : StepR P C ops.toList o sl x sl')
    (hpin : ∀ t ∈ C.pin, o.dst ≠ some t) (h : St C w0 F0 ts0 sl a w) (hK : ∀ a' w', St C w0 F0 ts0 (put sl' o.dst x) a' w' → K a' w') : wpOp P ops Q i K a w := by
  obtain ⟨φ, fx, fv, hr, hd, hp⟩ := h
  have done : ∀ v w' φ', RelW φ' w0 F0 sl' x a.tmps v w' → K (a.put o.dst v) w' := fun v w' φ' h' => by
    refine hK _ _ ?_
    cases ho : o.dst with
    | none => exact ⟨φ', x, v, h', hd, hp⟩
    | some d =>
      obtain ⟨φ2, h2⟩ := h'.land d
      exact ⟨φ2, .dead, v, h2, hd, hp.put fun t ht e => hpin t ht (by rw [ho, e])⟩
  obtain ⟨ts, ds⟩ := a
  have go : OutR P C sl o x sl' → Oper.wp P o ⟨ts, ds⟩ w K Q := fun ho => out_wp hT ho hr done
  have skip : x = .und → sl' = sl → K (Act.put ⟨ts, ds⟩ o.dst undef) w := fun e1 e2 => by
    subst e1 e2
    exact done undef w _ (hr.see rfl)
  unfold wpOp
  rw [hi]
  unfold StepR at hs
  cases hg : o.guard with
  | none =>
    simp only [hg] at hs
    have : Region.wanted o (yielded ops ts) = true := by simp [Region.wanted, hg]
    simp only [this, if_true]
    exact .inl (go hs)
  | some gw =>
    obtain ⟨g, want⟩ := gw
    simp only [hg] at hs
    obtain ⟨t, ht, hs⟩ := hs
    have ht' : (ops[g]?).bind (·.dst) = some t := by simpa [guardT] using ht
    have val : ∀ b, gt sl t = .one (.cell (.sc (.bool b))) → yielded ops ts g = some b := fun b hb => by
      have hrel := gt_rel hr t
      rw [hb] at hrel
      obtain ⟨e, -, -⟩ := hrel
      unfold yielded
      rw [ht']
      simp only [Option.bind_some]
      unfold valAt at e
      cases hv : ts[t]? with
      | none => simp [Array.getD_eq_getD_getElem?, hv, undef] at e
      | some v => simp only [Array.getD_eq_getD_getElem?, hv, Option.getD_some] at e; rw [e]
    rcases hs with ⟨h1, h2⟩ | ⟨h1, h2, h3⟩ | ⟨h1, h2, h3⟩
    · have : Region.wanted o (yielded ops ts) = true := by simp [Region.wanted, hg, val _ h1]
      simp only [this, if_true]
      exact .inl (go h2)
    · have : Region.wanted o (yielded ops ts) = false := by simp [Region.wanted, hg, val _ h1]
      simp only [this, Bool.false_eq_true, if_false]
      exact skip h2 h3
    · have : Region.wanted o (yielded ops ts) = false := by
        have hrel := gt_rel hr t
        rw [h1] at hrel
        have hrel : valAt ts t = undef := hrel
        have hy : yielded ops ts g = none := by
          unfold yielded
          rw [ht']
          simp only [Option.bind_some]
          unfold valAt at hrel
          cases hv : ts[t]? with
          | none => rfl
          | some v =>
            simp only [Array.getD_eq_getD_getElem?, hv, Option.getD_some] at hrel
            rw [hrel]
            rfl
        simp [Region.wanted, hg, hy]
      simp only [this, Bool.false_eq_true, if_false]
      exact skip h2 h3

theorem stepK_wp (hT : TbOk P C.tb) {i : Nat} {a : Act} {w : World} {K' : Sl → Prop} (hi : ops[i]? = some o) (hk : stepK P C ops.toList o sl K') (h : St C w0 F0 ts0 sl a w)
    (hK : ∀ sl', K' sl' → ∀ a' w', St C w0 F0 ts0 sl' a' w' → K a' w') : wpOp P ops Q i K a w := by
  cases hb : boxIo C o with
  | some td =>
    obtain ⟨t, d⟩ := td
    refine boxK_wp hi hb ?_ h hK
    unfold stepK at hk
    rwa [hb] at hk
  | none =>
    obtain ⟨x, sl', h1, h2⟩ := stepK_step hb hk
    obtain ⟨h3, h4⟩ := putK_put h2
    exact step_wp hT hi h1 h3 h (hK _ h4)
theorem boxIo_isX {C : Cfg} {o : Oper} (h : isX C o = false) : boxIo C o = none := by
  unfold boxIo
  split
  · rename_i ty t d h1 h2
    unfold isX at h
    rw [h1] at h
    dsimp only at h
    rw [h]; rfl
  · rfl

theorem isCt_inv {C : Cfg} {o : Oper} (h : isCt C o = true) : ∃ c f, o.op = .call c ∧ c.callee = .value (.func f) ∧ C.io f = none ∧ C.gv f = false ∧ isX C o = true := by
  unfold isCt at h
  split at h
  · rename_i c e1
    split at h
    · rename_i f e2
      simp only [Bool.and_eq_true, Bool.not_eq_true', Option.isNone_iff_eq_none] at h
      refine ⟨c, f, e1, e2, h.1, h.2.1, ?_⟩
      unfold isX
      rw [e1]; dsimp only; rw [e2]; dsimp only
      rw [h.2.2]; simp
    · cases h
  · cases h
theorem boxIo_rd {C : Cfg} {o : Oper} (h : rdO C o = true) : boxIo C o = none := by
  unfold rdO at h
  rw [Bool.or_eq_true, Bool.not_eq_true'] at h
  rcases h with h | h
  · exact boxIo_isX h
  · obtain ⟨c, f, e1, -⟩ := isCt_inv h
    unfold boxIo; rw [e1]
theorem rdO_nc {C : Cfg} {o : Oper} (h : rdO C o = true) (hn : ∀ c, o.op ≠ .call c) : isX C o = false := by
  unfold rdO at h
  rw [Bool.or_eq_true, Bool.not_eq_true'] at h
  rcases h with h | h
  · exact h
  · obtain ⟨c, f, e1, -⟩ := isCt_inv h
    exact absurd e1 (hn c)

theorem opsK_wp (hT : TbOk P C.tb) {K' : Sl → Prop} (hK : ∀ sl', K' sl' → ∀ a' w', St C w0 F0 ts0 sl' a' w' → Q .normal a' w') : ∀ (rest : List Oper) (k : Nat) (sl : Sl) (a : Act) (w : World),
    (∀ j, rest[j]? = ops[k + j]?) → opsK P C ops.toList rest sl K' → St C w0 F0 ts0 sl a w → wpOps P ops Q (List.range' k rest.length) a w
  | [], k, sl, a, w, _, hk, h => hK sl hk a w h
  | o :: rest, k, sl, a, w, he, hk, h => by
    rw [List.length_cons, List.range'_succ, wpOps_cons]
    have h0 := he 0
    simp only [List.getElem?_cons_zero, Nat.add_zero] at h0
    refine stepK_wp hT h0.symm hk h fun sl' hk' a' w' h' => opsK_wp hT hK rest (k + 1) sl' a' w' (fun j => ?_) hk' h'
    have := he (j + 1)
    simp only [List.getElem?_cons_succ] at this
    rw [this]; congr 1; omega

theorem region_wp (hT : TbOk P C.tb) {id : Nat} {K' : Sl → Prop} {a : Act} {w : World} (hk : opsK P C ops.toList ops.toList sl K') (h : St C w0 F0 ts0 sl a w)
    (hK : ∀ sl', K' sl' → ∀ a' w', St C w0 F0 ts0 sl' a' w' → Q .normal a' w') : (Code.region id ops false).wp P Q a w := by
  refine wp_region ?_
  have := opsK_wp hT hK ops.toList 0 sl a w (fun j => by simp) hk h
  rwa [Array.length_toList, ← List.range_eq_range'] at this
end
end Go.Proofs.Ytlffmhhdgedddaa.DL

/- The data level, part 18: what a reading operation brings hangs on the slots it looks at alone. -/
namespace Go.Proofs.Ytlffmhhdgedddaa.DL
open Go Go.RowKit

/-- The slots that an operand leads to are in sl2 as in sl. -/
def OkOp (sl sl2 : Sl) (x : Operand) : Prop := ∀ t, x = .tmp t → gt sl2 t = gt sl t ∧ ∀ r ∈ (gt sl t).roots, gt sl2 r = gt sl r

section
variable {tb : Tb} {sl sl2 : Sl} {x y z : Operand}

theorem resC_loc {c : CV} (h : ∀ r ∈ c.roots, gt sl2 r = gt sl r) : resC sl2 c = resC sl c := by
  unfold resC
  split
  · rename_i s p
    rw [h s (by simp [CV.roots])]
  · rfl
theorem view_loc {t : Nat} (h : gt sl2 t = gt sl t ∧ ∀ r ∈ (gt sl t).roots, gt sl2 r = gt sl r) : view sl2 t = view sl t := by
  obtain ⟨h1, h2⟩ := h
  unfold view
  rw [h1]
  split
  · rfl
  · rename_i c hn e
    rw [resC_loc fun r hr => h2 r (by rw [e]; simpa [SV.roots, RV.roots] using hr)]
  · rename_i cs e
    congr 2
    refine List.map_congr_left fun c hc => resC_loc fun r hr => h2 r ?_
    rw [e]
    simp only [SV.roots, RV.roots, List.mem_flatMap]
    exact ⟨c, hc, hr⟩
  · rfl
  · rfl
theorem opView_loc (h : OkOp sl sl2 x) (ty : TypeId) : opView tb ty sl2 x = opView tb ty sl x := by
  cases x with
  | tmp t => simp only [opView, view_loc (h t rfl)]
  | _ => rfl
theorem bound_loc {ty : TypeId} {x : Option Operand} (h : ∀ y, x = some y → OkOp sl sl2 y) (d : Int) : boundI tb ty sl2 x d = boundI tb ty sl x d := by
  cases x with
  | none => rfl
  | some y => simp only [boundI, opView_loc (h y rfl)]

theorem load_loc (h : OkOp sl sl2 x) {ty t : TypeId} {p : SV} (hp : opView tb ty sl x = some p) : loadV tb t sl2 p = loadV tb t sl p := by
  cases p with
  | ptr s q j =>
    have : gt sl2 s = gt sl s := by
      cases x with
      | tmp t =>
        obtain ⟨h1, h2⟩ := h t rfl
        simp only [opView, Option.some.injEq] at hp
        unfold view at hp
        split at hp
        · cases hp
        · cases hp
        · cases hp
        · cases hp; exact h1
        · exact h2 s (by rw [hp]; simp [SV.roots])
      | const v =>
        simp only [opView] at hp
        unfold constSV at hp
        split at hp <;> first | (cases hp; done) | (split at hp <;> cases hp) | cases hp
      | func f => simp [opView] at hp
      | global g => simp [opView] at hp
    simp only [loadV, this]
  | _ => rfl

theorem caps_loc : ∀ ss : List Nat, (∀ r ∈ ss, gt sl2 r = gt sl r) → capsV sl2 ss = capsV sl ss
  | [], _ => rfl
  | s :: ss, h => by
    simp only [capsV, h s (List.mem_cons_self ..), caps_loc ss fun r hr => h r (List.mem_cons_of_mem _ hr)]
theorem argV_loc (h : OkOp sl sl2 x) {ty : TypeId} {v : SV} (hv : opView tb ty sl x = some v) : argV sl2 v = argV sl v := by
  cases v with
  | one r => cases r <;> rfl
  | cloS f ss =>
    have : ∀ r ∈ ss, gt sl2 r = gt sl r := by
      cases x with
      | tmp t =>
        simp only [opView, Option.some.injEq] at hv
        unfold view at hv
        split at hv
        · cases hv
        · cases hv
        · cases hv
        · cases hv
        · intro r hr; exact (h t rfl).2 r (by rw [hv]; simpa [SV.roots] using hr)
      | const v =>
        simp only [opView] at hv
        unfold constSV at hv
        split at hv <;> first | (cases hv; done) | (split at hv <;> cases hv) | cases hv
      | func f => simp [opView] at hv
      | global g => simp [opView] at hv
    simp only [argV, caps_loc ss this]
  | _ => rfl
theorem argsV_loc : ∀ (os : List Operand) (tys : List TypeId), (∀ o ∈ os, OkOp sl sl2 o) → argsV tb sl2 tys os = argsV tb sl tys os
  | [], _, _ => rfl
  | o :: os, tys, h => by
    simp only [argsV, opView_loc (h o (List.mem_cons_self ..)), argsV_loc os tys.tail fun o' ho => h o' (List.mem_cons_of_mem _ ho)]
    cases hv : opView tb (tys.headD 0) sl o with
    | none => rfl
    | some v => simp only [Option.bind_some, argV_loc (h o (List.mem_cons_self ..)) hv]

theorem argsIo_loc {s i : Nat} {y : SV} : ∀ (os : List Operand) (k : Nat) (tys : List TypeId), (∀ o ∈ os, OkOp sl sl2 o) → argsIo tb sl2 s i y k tys os = argsIo tb sl s i y k tys os
  | [], _, _, _ => rfl
  | o :: os, k, tys, h => by
    simp only [argsIo, opView_loc (h o (List.mem_cons_self ..)), argsIo_loc os (k + 1) tys.tail fun o' ho => h o' (List.mem_cons_of_mem _ ho)]
    cases hv : opView tb (tys.headD 0) sl o with
    | none => rfl
    | some v => simp only [argV_loc (h o (List.mem_cons_self ..)) hv]
theorem ioV_loc {x0 : SV} {c : List Prop} {s : Nat} {p : List Nat} {y : SV} {zs : List CV} (h : ioV sl x0 = some (c, s, p, y, zs)) (hs : gt sl2 s = gt sl s) : ioV sl2 x0 = some (c, s, p, y, zs) := by
  unfold ioV at h ⊢
  split at h
  · rename_i s' p' sz es
    have e : s' = s := by
      split at h
      · cases h; rfl
      · split at h
        · cases h; rfl
        · cases h
      · cases h
    subst e
    try dsimp only
    rw [hs]; exact h
  · rename_i s'
    have e : s' = s := by
      split at h
      · split at h
        · cases h; rfl
        · cases h
      · cases h
    subst e
    try dsimp only
    rw [hs]; exact h
  · rename_i xs
    try dsimp only
    split at h
    · rename_i s' o ha
      have e : s' = s := by
        split at h
        · simp only [Option.map_eq_some_iff, Prod.mk.injEq] at h
          obtain ⟨ys, -, -, h, -⟩ := h
          exact h
        · cases h
      subst e
      try rw [ha]
      try dsimp only
      rw [hs]; exact h
    · cases h
  · cases h
theorem io_loc {P : Program} {C : Cfg} {f : FuncId} {i : Nat} {tys : List TypeId} {os : List Operand} {q : List Prop} {s : Nat} {p : List Nat} {y x0 : SV} {zs : List CV} {xo : Operand} {as : List SV} {cs ws : List CV}
    (h : IoR P C sl f i tys os q s p y x0 zs xo as cs ws) (hok : ∀ x ∈ os, OkOp sl sl2 x) (hs : gt sl2 s = gt sl s) : IoR P C sl2 f i tys os q s p y x0 zs xo as cs ws :=
  ⟨h.hxo, (opView_loc (hok xo (List.mem_of_getElem? h.hxo)) _).trans h.hx0, ioV_loc h.hio hs, (argsIo_loc os 0 tys hok).trans h.has, h.hok, h.hcl, h.hcf, h.hwl, h.hwf, h.hc, h.call⟩

theorem take_loc (h : OkOp sl sl2 x) (hn : ∀ t, x = .tmp t → (gt sl t).isOwn = false) (ty : TypeId) :
    ∃ r : Option SV, opTake tb ty sl x = r.map (·, sl) ∧ opTake tb ty sl2 x = r.map (·, sl2) := by
  cases x with
  | tmp t =>
    refine ⟨some (gt sl t), ?_, ?_⟩
    · simp [opTake, takeT, hn t rfl]
    · simp [opTake, takeT, (h t rfl).1, hn t rfl]
  | const v => exact ⟨constSV tb ty v, rfl, rfl⟩
  | func f => exact ⟨some (.cloR f []), rfl, rfl⟩
  | global g => exact ⟨none, rfl, rfl⟩

theorem parts_loc {pl : Nat → Option (Nat × Nat)} {total : Nat} : ∀ ps : List (Nat × Operand), (∀ p ∈ ps, OkOp sl sl2 p.2) → (∀ p ∈ ps, ∀ t, p.2 = .tmp t → (gt sl t).isOwn = false) →
    ∃ r : Option (List (Nat × List CV)), takeParts tb pl total sl ps = r.map (·, sl) ∧ takeParts tb pl total sl2 ps = r.map (·, sl2)
  | [], _, _ => ⟨some [], rfl, rfl⟩
  | (i, x) :: ps, h, hn => by
    obtain ⟨r0, h1, h2⟩ := take_loc (tb := tb) (h (i, x) (List.mem_cons_self ..)) (fun t e => hn (i, x) (List.mem_cons_self ..) t e) 0
    obtain ⟨r, h3, h4⟩ := parts_loc (pl := pl) (total := total) ps (fun p hp => h p (List.mem_cons_of_mem _ hp)) fun p hp => hn p (List.mem_cons_of_mem _ hp)
    simp only [takeParts, h1, h2]
    cases pl i with
    | none => exact ⟨none, by cases r0 <;> rfl, by cases r0 <;> rfl⟩
    | some on =>
      cases r0 with
      | none => exact ⟨none, rfl, rfl⟩
      | some v =>
        simp only [Option.map_some, h3, h4]
        cases partC v with
        | none => exact ⟨none, by cases r <;> rfl, by cases r <;> rfl⟩
        | some cs =>
          cases r with
          | none => exact ⟨none, rfl, rfl⟩
          | some r =>
            simp only [Option.map_some]
            by_cases hc : (cs.length == on.2 && Nat.ble (on.1 + on.2) total) = true
            · exact ⟨some ((on.1, cs) :: r), by simp [hc], by simp [hc]⟩
            · exact ⟨none, by simp [hc], by simp [hc]⟩

theorem gt_set_ne {s r : Nat} {x : SV} (h : r ≠ s) : gt (sl.set s x) r = gt sl r := by
  unfold gt
  rw [List.getD_eq_getElem?_getD, List.getD_eq_getElem?_getD, List.getElem?_set_ne (Ne.symm h)]
theorem map_kill_id {s : Nat} (h : ∀ y ∈ sl, s ∉ y.roots) : sl.map (killSV s) = sl :=
  (List.map_congr_left fun y hy => by unfold killSV; rw [if_neg (h y hy)]; rfl).trans (List.map_id _)
/-- What 'append' brings hangs on the two slots alone. -/
theorem app_loc {s u : Nat} {t : TypeId} {cs : List Prop} {v : SV} {sl1 : Sl} (h : appV tb sl t (.tmp s) (.tmp u) = some (cs, v, sl1)) (ho : ownForm (gt sl s) = true) (hu : (gt sl u).isOwn = false) (hus : u ≠ s)
    (hr : ∀ y ∈ sl, s ∉ y.roots) (hr2 : ∀ y ∈ sl2, s ∉ y.roots) (hs : gt sl2 s = gt sl s) (hok : OkOp sl sl2 (.tmp u)) : sl1 = sl.set s .dead ∧ v.roots = [] ∧ appV tb sl2 t (.tmp s) (.tmp u) = some (cs, v, sl2.set s .dead) := by
  obtain ⟨d, e⟩ : ∃ d, gt sl s = .one (.cell (.own d)) := by
    unfold ownForm at ho
    split at ho
    · rename_i d e; exact ⟨d, e⟩
    · cases ho
  have tk : ∀ z : Sl, gt z s = gt sl s → (∀ y ∈ z, s ∉ y.roots) → takeT z s = (.one (.cell (.own d)), z.set s .dead) := fun z hz hzr => by
    unfold takeT
    rw [hz, e]
    have k1 : killSV s (.one (.cell (.own d))) = .one (.cell (.own d)) := rfl
    have k2 : killSV s SV.dead = .dead := by unfold killSV; split <;> rfl
    simp only [SV.isOwn, RV.isOwn, CV.isOwn, if_true, k1, putT, map_kill_id hzr, k2]
  obtain ⟨o1, o2⟩ := hok u rfl
  have hsr : gt sl u ≠ .dead → ∀ r ∈ (gt sl u).roots, r ≠ s := fun hd r hm e' => by
    have hul : u < sl.length := by
      refine Nat.lt_of_not_le fun hle => hd ?_
      unfold gt
      rw [List.getD_eq_getElem?_getD, List.getElem?_eq_none hle]; rfl
    have hmem : gt sl u ∈ sl := by
      unfold gt
      rw [List.getD_eq_getElem?_getD, List.getElem?_eq_getElem hul]
      exact List.getElem_mem hul
    exact hr _ hmem (e' ▸ hm)
  have hsr' : ∀ r ∈ (gt sl u).roots, r ≠ s := fun r hm => hsr (fun hd => by rw [hd] at hm; cases hm) r hm
  have g1 : gt (sl.set s .dead) u = gt sl u := gt_set_ne hus
  have g2 : gt (sl2.set s .dead) u = gt sl u := (gt_set_ne hus).trans o1
  have v1 : view (sl.set s .dead) u = view sl u := view_loc ⟨g1, fun r hm => gt_set_ne (hsr' r hm)⟩
  have v2 : view (sl2.set s .dead) u = view sl u := view_loc ⟨g2, fun r hm => (gt_set_ne (hsr' r hm)).trans (o2 r hm)⟩
  unfold appV at h ⊢
  simp only [opTake, tk sl rfl hr, tk sl2 hs hr2] at h ⊢
  cases d with
  | val x =>
    split at h
    · rename_i hh; cases hh
    · cases h
  | sl sz es =>
    cases hk : (tb t).k with
    | slice el =>
      rw [hk] at h
      dsimp only at h ⊢
      rw [g1, v1] at h
      rw [g2, v2]
      split at h
      · rename_i sz2 es2 e2
        rw [e2] at hu
        cases hu
      · split at h
        · cases h; exact ⟨rfl, rfl, rfl⟩
        · cases h
    | _ => rw [hk] at h; cases h

theorem opV_loc {op : Op} {ty : TypeId} {c : List Prop} {v : SV} {sl' : Sl} (hs : still sl op = true) (h : opV tb sl ty op = some (c, v, sl')) (hok : ∀ x ∈ op.operands, OkOp sl sl2 x) :
    sl' = sl ∧ opV tb sl2 ty op = some (c, v, sl2) := by
  cases op with
  | move x =>
    have hx := hok x (by simp [Op.operands])
    cases x with
    | tmp t =>
      obtain ⟨h1, h2⟩ := hx t rfl
      have taken : (gt sl t).isOwn = false → some (([] : List Prop), takeT sl t) = some (c, v, sl') → sl' = sl ∧ some (([] : List Prop), takeT sl2 t) = some (c, v, sl2) := fun ho e => by
        simp only [takeT, ho, h1, Bool.false_eq_true, if_false] at e ⊢
        cases e; exact ⟨rfl, rfl⟩
      simp only [opV] at h ⊢
      rw [h1]
      simp only [still] at hs
      split at h
      · rename_i rs e
        rw [e] at hs
        exact taken (by rw [e]; simpa [SV.isOwn] using hs) h
      · rename_i cs e
        rw [e] at hs
        exact taken (by rw [e]; simpa [SV.isOwn, RV.isOwn] using hs) h
      · cases h; exact ⟨rfl, rfl⟩
      · cases h; exact ⟨rfl, rfl⟩
      · rw [view_loc ⟨h1, h2⟩]
        cases h; exact ⟨rfl, rfl⟩
    | const u =>
      simp only [opV] at h ⊢
      simp only [opView] at h ⊢
      cases hc : constSV tb ty u with
      | none => rw [hc] at h; cases h
      | some r => rw [hc] at h; cases h; exact ⟨rfl, rfl⟩
    | func f => cases h; exact ⟨rfl, rfl⟩
    | global g => cases h
  | assign x =>
    have hx := hok x (by simp [Op.operands])
    obtain ⟨r, h1, h2⟩ := take_loc (tb := tb) hx (fun t e => by subst e; simpa [still] using hs) ty
    simp only [opV, h1, h2] at h ⊢
    cases r with
    | none => cases h
    | some r => cases h; exact ⟨rfl, rfl⟩
  | alloc e =>
    simp only [opV] at h ⊢
    split at h
    · cases h
    · cases h; exact ⟨rfl, rfl⟩
  | box e x =>
    have hx := hok x (by simp [Op.operands])
    obtain ⟨r, h1, h2⟩ := take_loc (tb := tb) hx (fun t e => by subst e; simpa [still] using hs) ty
    simp only [opV, h1, h2] at h ⊢
    cases r with
    | none => cases h
    | some r =>
      simp only [Option.map_some] at h ⊢
      cases hb : boxOf r with
      | none => rw [hb] at h; cases h
      | some b => rw [hb] at h; cases h; exact ⟨rfl, rfl⟩
  | load t x =>
    have hx := hok x (by simp [Op.operands])
    simp only [opV, opView_loc hx] at h ⊢
    cases hp : opView tb ty sl x with
    | none => rw [hp] at h; cases h
    | some p =>
      rw [hp] at h
      simp only at h ⊢
      rw [load_loc hx hp]
      cases hl : loadV tb t sl p with
      | none => rw [hl] at h; cases h
      | some r => rw [hl] at h; cases h; exact ⟨rfl, rfl⟩
  | nilCheck x =>
    have hx := hok x (by simp [Op.operands])
    simp only [opV, opView_loc hx] at h ⊢
    split at h
    · cases h; exact ⟨rfl, rfl⟩
    · cases h; exact ⟨rfl, rfl⟩
    · cases h
  | binOp op xt x y yt =>
    have hx := hok x (by simp [Op.operands])
    have hy := hok y (by simp [Op.operands])
    simp only [opV, opView_loc hx, opView_loc hy] at h ⊢
    split at h
    · rename_i v' hn e1
      split at h
      · cases h; exact ⟨rfl, rfl⟩
      · cases h
    · cases h
    · rename_i hn
      split at h
      · rename_i u v' e1 e2
        cases hb : binV op (tb xt).k u v' with
        | none => rw [hb] at h; cases h
        | some r => rw [hb] at h; cases h; exact ⟨rfl, rfl⟩
      · rename_i cs' ds' e1 e2
        cases hb : eqA op ((tb xt).eq && cs'.length == (tb xt).size) cs' ds' with
        | none => rw [hb] at h; cases h
        | some r => rw [hb] at h; cases h; exact ⟨rfl, rfl⟩
      · cases h
  | unOp op xt x =>
    have hx := hok x (by simp [Op.operands])
    simp only [opV, opView_loc hx] at h ⊢
    split at h
    · rename_i u e1
      cases hb : unV op u with
      | none => rw [hb] at h; cases h
      | some r => rw [hb] at h; cases h; exact ⟨rfl, rfl⟩
    · cases h
  | convert src dst x =>
    have hx := hok x (by simp [Op.operands])
    simp only [opV, opView_loc hx] at h ⊢
    split at h
    · rename_i k u e1 e2
      cases hb : conV (tb dst).k u with
      | none => rw [hb] at h; cases h
      | some r => rw [hb] at h; cases h; exact ⟨rfl, rfl⟩
    · rename_i e v e1 e2
      cases hb : conB (tb e).k (tb dst).k (sliceD v) with
      | none => rw [hb] at h; cases h
      | some r => rw [hb] at h; cases h; exact ⟨rfl, rfl⟩
    · cases h
  | makeSlice t l d =>
    have hx := hok l (by simp [Op.operands])
    have hy := hok d (by simp [Op.operands])
    simp only [opV, opView_loc hx, opView_loc hy] at h ⊢
    split at h
    · cases h; exact ⟨rfl, rfl⟩
    · cases h
  | slice t x lo hi mx =>
    have hx := hok x (by simp [Op.operands])
    have hl : ∀ d, boundI tb ty sl2 lo d = boundI tb ty sl lo d := fun d => bound_loc (fun y hy => hok y (by simp [Op.operands, hy])) d
    have hh : ∀ d, boundI tb ty sl2 hi d = boundI tb ty sl hi d := fun d => bound_loc (fun y hy => hok y (by simp [Op.operands, hy])) d
    simp only [opV, opView_loc hx, hl, hh] at h ⊢
    split at h
    · rename_i u e2
      split at h
      · rename_i l' h' e3 e4
        cases hb : cutV tb t u l' h' with
        | none => rw [hb] at h; cases h
        | some r => rw [hb] at h; cases h; exact ⟨rfl, rfl⟩
      · cases h
    · cases h
  | fieldAddr t x f =>
    have hx := hok x (by simp [Op.operands])
    simp only [opV, opView_loc hx] at h ⊢
    split at h
    · split at h
      · rename_i hlt; rw [if_pos hlt]; cases h; exact ⟨rfl, rfl⟩
      · cases h
    · split at h
      · rename_i hlt; rw [if_pos hlt]; cases h; exact ⟨rfl, rfl⟩
      · cases h
    · cases h
  | indexAddr t x i =>
    have hx := hok x (by simp [Op.operands])
    have hy := hok i (by simp [Op.operands])
    simp only [opV, opView_loc hx, opView_loc hy] at h ⊢
    split at h
    · rename_i e u k n e1 e2 e3
      cases hb : idxV u n (tb e).size with
      | none => rw [hb] at h; cases h
      | some r => rw [hb] at h; cases h; exact ⟨rfl, rfl⟩
    · split at h
      · rename_i hlt; rw [if_pos hlt]; cases h; exact ⟨rfl, rfl⟩
      · cases h
    · cases h
  | index t x i =>
    have hx := hok x (by simp [Op.operands])
    have hy := hok i (by simp [Op.operands])
    simp only [opV, opView_loc hx, opView_loc hy] at h ⊢
    split at h
    · split at h
      · split at h
        · rename_i hlt; rw [if_pos hlt]; cases h; exact ⟨rfl, rfl⟩
        · cases h
      · cases h
    · cases h
  | extract x i =>
    cases x with
    | tmp t =>
      obtain ⟨h1, -⟩ := hok (.tmp t) (by simp [Op.operands]) t rfl
      simp only [opV, h1] at h ⊢
      simp only [still] at hs
      split at h
      · rename_i rs e
        rw [e] at hs
        dsimp only at hs
        split at h
        · rename_i r hr
          rw [hr] at hs
          have : r.isOwn = false := by simpa using hs
          simp only [this, Bool.false_eq_true, if_false] at h ⊢
          cases h; exact ⟨rfl, rfl⟩
        · cases h
      · cases h
    | _ => cases h
  | pick c a b => cases h
  | call c => cases h
  | build t ps =>
    simp only [still, List.all_eq_true] at hs
    have own : ∀ p ∈ ps.toList, ∀ u, p.2 = .tmp u → (gt sl u).isOwn = false := fun p hp u e => by
      have := hs p hp
      rw [e] at this
      simpa using this
    have ok : ∀ p ∈ ps.toList, OkOp sl sl2 p.2 := fun p hp => hok p.2 (by simp only [Op.operands, List.mem_toArray, List.mem_map]; exact ⟨p, hp, rfl⟩)
    simp only [opV] at h ⊢
    split at h
    · rename_i offs hk
      obtain ⟨r, h1, h2⟩ := parts_loc (tb := tb) (pl := fun i => (offs.zip (tb t).szs)[i]?) (total := (tb t).zero.length) ps.toList ok own
      rw [h1] at h
      rw [h2]
      cases r with
      | none => cases h
      | some r => cases h; exact ⟨rfl, rfl⟩
    · rename_i n e hk
      obtain ⟨r, h1, h2⟩ := parts_loc (tb := tb) (pl := fun i => some (i * (tb e).size, (tb e).size)) (total := (tb t).zero.length) ps.toList ok own
      split at h
      · rename_i hb
        rw [if_pos hb]
        rw [h1] at h
        rw [h2]
        cases r with
        | none => cases h
        | some r => cases h; exact ⟨rfl, rfl⟩
      · cases h
    · cases h
  | buildSlice t len ps =>
    simp only [still, List.all_eq_true] at hs
    have own : ∀ p ∈ ps.toList, ∀ u, p.2 = .tmp u → (gt sl u).isOwn = false := fun p hp u e => by
      have := hs p hp
      rw [e] at this
      simpa using this
    have ok : ∀ p ∈ ps.toList, OkOp sl sl2 p.2 := fun p hp => hok p.2 (by simp only [Op.operands, List.mem_toArray, List.mem_map]; exact ⟨p, hp, rfl⟩)
    simp only [opV] at h ⊢
    split at h
    · rename_i e hk
      obtain ⟨r, h1, h2⟩ := parts_loc (tb := tb) (pl := fun i => some (i * (tb e).size, (tb e).size)) (total := len * (tb e).size) ps.toList ok own
      split at h
      · rename_i hb
        rw [if_pos hb]
        rw [h1] at h
        rw [h2]
        cases r with
        | none => cases h
        | some r =>
          simp only [Option.map_some] at h ⊢
          split at h
          · rename_i hf
            rw [if_pos hf]
            cases h; exact ⟨rfl, rfl⟩
          · cases h
      · cases h
    · cases h
  | _ => simp [still] at hs

variable {P : Program} {C : Cfg} {o : Oper}

theorem ct_loc {v : SV} {sl' : Sl} (hs : isCt C o = true) (h : OutR P C sl o v sl') (hok : ∀ x ∈ o.op.operands, OkOp sl sl2 x) : sl' = sl ∧ OutR P C sl2 o v sl2 := by
  obtain ⟨c, f, e1, e2, e3, e4, e5⟩ := isCt_inv hs
  unfold OutR at h ⊢
  simp only [e5, if_true] at h ⊢
  unfold OutX at h ⊢
  rw [e1] at h hok ⊢
  dsimp only at h ⊢
  rw [e2] at h ⊢
  dsimp only at h ⊢
  have args : ∀ x ∈ c.args.toList, OkOp sl sl2 x := fun x hx => hok x (by
    simp only [Op.operands, Call.operands, e2]
    simp [Array.mem_toList_iff.1 hx])
  rcases h with ⟨i, q, s, p, y, x0, zs, xo, as, cs, ws, h1, -⟩ | ⟨i, t, sz, es, as, cs, h1, -⟩ | ⟨y, ys, u, d, as, cs, h1, h2, h3, h4, h5, h6, h7, h8, h9⟩ | ⟨i, j, h1, ⟨y, cs, sz, es, as, lo, hi, g1, g2, g3, g4, g5, g6, g7⟩, h3⟩
  · rw [e3] at h1; cases h1
  · rw [e4] at h1; cases h1
  · refine ⟨h9, .inr (.inr (.inl ⟨y, ys, u, d, as, cs, h1, h2, ?_, ?_, h5, h6, h7, h8, rfl⟩))⟩
    · rw [opView_loc (args y (by rw [h2]; simp))]; exact h3
    · rw [argsV_loc _ _ args]; exact h4
  · refine ⟨h3, .inr (.inr (.inr ⟨i, j, h1, ⟨y, cs, sz, es, as, lo, hi, g1, ?_, ?_, g4, g5, g6, g7⟩, rfl⟩))⟩
    · rw [opView_loc (args y (List.mem_of_getElem? g1))]; exact g2
    · rw [argsV_loc _ _ args]; exact g3
theorem out_loc {v : SV} {sl' : Sl} (hs : (still sl o.op && rdO C o) = true) (h : OutR P C sl o v sl') (hok : ∀ x ∈ o.op.operands, OkOp sl sl2 x) : sl' = sl ∧ OutR P C sl2 o v sl2 := by
  simp only [Bool.and_eq_true, rdO, Bool.or_eq_true, Bool.not_eq_true'] at hs
  obtain ⟨hs, hx⟩ := hs
  rcases hx with hx | hx
  case inr => exact ct_loc hx h hok
  unfold OutR at h ⊢
  simp only [hx, Bool.false_eq_true, if_false] at h ⊢
  unfold OutR0 at h ⊢
  generalize ho : o.op = op at *
  have rest : (∃ cs, opV C.tb sl o.type op = some (cs, v, sl') ∧ ∀ p ∈ cs, p) → sl' = sl ∧ ∃ cs, opV C.tb sl2 o.type op = some (cs, v, sl2) ∧ ∀ p ∈ cs, p := fun ⟨cs, h1, h2⟩ => by
    obtain ⟨e1, e2⟩ := opV_loc hs h1 hok
    exact ⟨e1, cs, e2, h2⟩
  cases op with
  | pick c a b =>
    obtain ⟨t, u, h1, h2, h3, rfl⟩ := h
    refine ⟨rfl, t, u, ?_, ?_, h3, rfl⟩
    · rw [opView_loc (hok c (by simp [Op.operands]))]; exact h1
    · rw [opView_loc (hok _ ?_)]
      · exact h2
      · cases t <;> simp [Op.operands]
  | call c =>
    dsimp only at h ⊢
    have args : ∀ x ∈ c.args, OkOp sl sl2 x := fun x hx => hok x (by
      simp only [Op.operands, Call.operands]
      cases c.callee <;> simp [hx])
    cases hcal : c.callee with
    | value f =>
      rw [hcal] at h
      cases f with
      | func f =>
        obtain ⟨as, cs, h1, h2, h3, h4, h5, h6, rfl⟩ := h
        exact ⟨rfl, as, cs, by rw [argsV_loc _ _ fun x hx => args x (by simpa using hx)]; exact h1, h2, h3, h4, h5, h6, rfl⟩
      | _ => exact h.elim
    | invoke r m => rw [hcal] at h; exact h.elim
    | builtin b =>
      rw [hcal] at h
      cases b with
      | len =>
        obtain ⟨t, y, n, h1, h2, h3, h4, rfl⟩ := h
        refine ⟨rfl, t, y, n, h1, h2, ?_, h4, rfl⟩
        rw [opView_loc (args y (by rw [← Array.mem_toList_iff, h2]; simp))]
        exact h3
      | _ =>
        obtain ⟨mx, y, z, u, v, r, h0, h1, h2, h3, h4, h5, rfl⟩ := h
        exact ⟨rfl, mx, y, z, u, v, r, h0, h1, by rw [opView_loc (args y (by rw [← Array.mem_toList_iff, h1]; simp))]; exact h2, by rw [opView_loc (args z (by rw [← Array.mem_toList_iff, h1]; simp))]; exact h3, h4, h5, rfl⟩
  | _ => exact rest h

theorem step_loc {ops : List Oper} {v : SV} {sl' : Sl} (hs : (still sl o.op && rdO C o) = true) (h : StepR P C ops o sl v sl') (hf : ∀ t ∈ foot ops o sl, gt sl2 t = gt sl t) :
    sl' = sl ∧ StepR P C ops o sl2 v sl2 := by
  have hok : ∀ x ∈ o.op.operands, OkOp sl sl2 x := fun x hx t ht => by
    have ht' : t ∈ tmpsOf o := List.mem_filterMap.2 ⟨x, by simpa using hx, by rw [ht]⟩
    exact ⟨hf t (by simp [foot, ht']), fun r hr => hf r (List.mem_append_right _ (List.mem_append_right _ (List.mem_flatMap.2 ⟨t, ht', hr⟩)))⟩
  unfold StepR at h ⊢
  cases hg : o.guard with
  | none =>
    simp only [hg] at h ⊢
    exact out_loc hs h hok
  | some gw =>
    obtain ⟨g, want⟩ := gw
    simp only [hg] at h ⊢
    obtain ⟨t, ht, h⟩ := h
    have e : gt sl2 t = gt sl t := hf t (by simp [foot, guardSl, hg, ht])
    rcases h with ⟨h1, h2⟩ | ⟨h1, h2, h3⟩ | ⟨h1, h2, h3⟩
    · obtain ⟨e1, e2⟩ := out_loc hs h2 hok
      exact ⟨e1, t, ht, .inl ⟨e.trans h1, e2⟩⟩
    · exact ⟨h3, t, ht, .inr (.inl ⟨e.trans h1, h2, by trivial⟩)⟩
    · exact ⟨h3, t, ht, .inr (.inr ⟨e.trans h1, h2, by trivial⟩)⟩
end
end Go.Proofs.Ytlffmhhdgedddaa.DL

/- The data level, part 19: regions whose operations may run in more than one order: a segment between two cuts. -/
namespace Go.Proofs.Ytlffmhhdgedddaa.DL
open Go Go.RowKit

theorem maskTab_pre : ∀ (os : List Oper) (tab : List Nat), ∃ r, maskTab os tab = tab ++ r ∧ r.length = os.length
  | [], tab => ⟨[], by simp [maskTab], rfl⟩
  | o :: os, tab => by
    obtain ⟨r, h, hl⟩ := maskTab_pre os (tab ++ [maskOf tab (afters o)])
    exact ⟨maskOf tab (afters o) :: r, by simp [maskTab, h], by simp [hl]⟩

theorem maskOf_bit {tab : List Nat} {b : Nat} : ∀ js : List Nat, (maskOf tab js).testBit b = true ↔ ∃ j ∈ js, b = j ∨ (tab.getD j 0).testBit b = true
  | [] => by simp [maskOf]
  | j :: js => by
    simp only [maskOf, Nat.testBit_or, Bool.or_eq_true, maskOf_bit js, List.mem_cons, exists_eq_or_imp, Nat.testBit_two_pow, decide_eq_true_eq]
    constructor
    · rintro ((h | h) | h)
      · exact .inl (.inl h.symm)
      · exact .inl (.inr h)
      · exact .inr h
    · rintro ((h | h) | h)
      · exact .inl (.inl h.symm)
      · exact .inl (.inr h)
      · exact .inr h

theorem getD_pre {tab r : List Nat} {j : Nat} (h : j < tab.length) : (tab ++ r).getD j 0 = tab.getD j 0 := by simp [List.getElem?_append_left h]

theorem mask_spec : ∀ (os : List Oper) (tab : List Nat) (i : Nat) (o : Oper), os[i]? = some o → ∃ pre : List Nat, pre.length = tab.length + i ∧ (∃ r, maskTab os tab = pre ++ r) ∧
    (maskTab os tab).getD (tab.length + i) 0 = maskOf pre (afters o)
  | [], _, i, o, h => by simp at h
  | o' :: os, tab, 0, o, h => by
    simp only [List.getElem?_cons_zero, Option.some.injEq] at h
    subst h
    obtain ⟨r, hr, -⟩ := maskTab_pre os (tab ++ [maskOf tab (afters o')])
    exact ⟨tab, rfl, ⟨maskOf tab (afters o') :: r, by simp [maskTab, hr]⟩, by simp [maskTab, hr]⟩
  | o' :: os, tab, i + 1, o, h => by
    simp only [List.getElem?_cons_succ] at h
    obtain ⟨pre, h1, h2, h3⟩ := mask_spec os (tab ++ [maskOf tab (afters o')]) i o h
    refine ⟨pre, by simp at h1; omega, h2, ?_⟩
    have : tab.length + (i + 1) = (tab ++ [maskOf tab (afters o')]).length + i := by simp; omega
    rw [this]
    exact h3

/-- The masks of a region: what they are, and that they look back. -/
structure Masks (ops : Array Oper) (tab : List Nat) : Prop where
  len : tab.length = ops.size
  here : ∀ k o, ops[k]? = some o → ∀ j ∈ afters o, (tab.getD k 0).testBit j = true
  bit : ∀ k o b, ops[k]? = some o → (tab.getD k 0).testBit b = true → ∃ j ∈ afters o, b = j ∨ (tab.getD j 0).testBit b = true
  back : ∀ k b, (tab.getD k 0).testBit b = true → b < k

theorem backB_spec : ∀ (tab : List Nat) (k i : Nat) (m : Nat), backB tab k = true → tab[i]? = some m → m < 2 ^ (k + i)
  | [], _, _, _, _, h => by simp at h
  | x :: xs, k, 0, m, hb, h => by
    simp only [List.getElem?_cons_zero, Option.some.injEq] at h
    subst h
    simp only [backB, Bool.and_eq_true] at hb
    exact Nat.le_of_ble_eq_true hb.1
  | x :: xs, k, i + 1, m, hb, h => by
    simp only [backB, Bool.and_eq_true] at hb
    have := backB_spec xs (k + 1) i m hb.2 (by simpa using h)
    have e : k + 1 + i = k + (i + 1) := by omega
    rwa [e] at this

theorem masks {ops : Array Oper} (hb : backB (maskTab ops.toList []) 0 = true) : Masks ops (maskTab ops.toList []) := by
  have spec : ∀ k o, ops[k]? = some o → ∃ pre : List Nat, pre.length = k ∧ (∃ r, maskTab ops.toList [] = pre ++ r) ∧ (maskTab ops.toList []).getD k 0 = maskOf pre (afters o) := fun k o h => by
    obtain ⟨pre, h1, h2, h3⟩ := mask_spec ops.toList [] k o (by simpa using h)
    exact ⟨pre, by simpa using h1, h2, by simpa using h3⟩
  refine ⟨?_, fun k o h j hj => ?_, fun k o b h hb' => ?_, fun k b hb' => ?_⟩
  · obtain ⟨r, h, hl⟩ := maskTab_pre ops.toList []
    rw [h]; simpa using hl
  · obtain ⟨pre, h1, h2, h3⟩ := spec k o h
    rw [h3, maskOf_bit]
    exact ⟨j, hj, .inl rfl⟩
  · obtain ⟨pre, h1, ⟨r, h2⟩, h3⟩ := spec k o h
    rw [h3, maskOf_bit] at hb'
    obtain ⟨j, hj, h4⟩ := hb'
    refine ⟨j, hj, h4.imp id fun h5 => ?_⟩
    rw [h2]
    by_cases hlt : j < pre.length
    · rw [getD_pre hlt]; exact h5
    · have : pre.getD j 0 = 0 := by simp [List.getElem?_eq_none (Nat.le_of_not_lt hlt)]
      rw [this] at h5
      simp at h5
  · cases hk : (maskTab ops.toList [])[k]? with
    | none => simp [hk] at hb'
    | some m =>
      have := backB_spec _ 0 k m hb hk
      simp only [List.getD_eq_getElem?_getD, hk, Option.getD_some] at hb'
      rcases Nat.lt_or_ge b k with h | h
      · exact h
      · have : m < 2 ^ b := Nat.lt_of_lt_of_le this (Nat.pow_le_pow_right (by omega) (by omega))
        rw [Nat.testBit_lt_two_pow this] at hb'
        cases hb'

theorem cutB_spec {tab : List Nat} {e k b : Nat} (h : cutB tab e = true) (hk : e ≤ k) (hl : k < tab.length) (hb : b < e) : (tab.getD k 0).testBit b = true := by
  have hm : tab[k]'hl ∈ tab.drop e := by
    rw [List.mem_iff_getElem]
    exact ⟨k - e, by rw [List.length_drop]; omega, by rw [List.getElem_drop]; congr 1; omega⟩
  have h1 := List.all_eq_true.1 h _ hm
  have h2 : tab[k]'hl &&& (2 ^ e - 1) = 2 ^ e - 1 := by simpa using h1
  have h3 := congrArg (fun m => m.testBit b) h2
  simp only [Nat.testBit_and, Nat.testBit_two_pow_sub_one, hb, decide_true, Bool.and_true] at h3
  simpa [List.getD_eq_getElem?_getD, List.getElem?_eq_getElem hl] using h3

section
variable {P : Program} {ops : Array Oper} {tab : List Nat} {Q : Exit → Act → World → Prop}

def at' (listed : Array Bool) (j : Nat) : Bool := listed.getD j false
def cnt (ops : Array Oper) (listed : Array Bool) : Nat := ((List.range ops.size).filter fun j => !at' listed j).length
def upd (L : Nat → Bool) (k : Nat) : Nat → Bool := fun j => if j = k then true else L j

theorem at_set {listed : Array Bool} {k : Nat} (hk : k < listed.size) : at' (listed.setIfInBounds k true) = upd (at' listed) k := by
  funext j
  unfold at' upd
  split
  · rename_i e; subst e; simp [hk]
  · rename_i e; rw [getD_set_ne false (fun e' => e e'.symm)]

theorem cnt_set {listed : Array Bool} {k : Nat} (hs : listed.size = ops.size) (hk : k < ops.size) (hu : at' listed k = false) : cnt ops (listed.setIfInBounds k true) < cnt ops listed := by
  unfold cnt
  rw [at_set (by omega)]
  have : ((List.range ops.size).filter fun j => !upd (at' listed) k j) = ((List.range ops.size).filter fun j => !at' listed j).filter fun j => j ≠ k := by
    rw [List.filter_filter]
    congr 1
    funext j
    unfold upd
    by_cases e : j = k <;> simp [e]
  rw [this]
  refine List.length_filter_lt_length_iff_exists.2 ⟨k, List.mem_filter.2 ⟨List.mem_range.2 hk, by simp [hu]⟩, by simp⟩

/-- A segment [c, c + n): what is kept (S) of the operations that have run, and what each step asks. -/
theorem seg_abs (hM : Masks ops tab) {c n : Nat} (hn : c + n ≤ ops.size) (hcut : cutB tab (c + n) = true) (S : (Nat → Bool) → Act → World → Prop)
    (hS : ∀ L L' a w, (∀ j, c ≤ j → j < c + n → L j = L' j) → S L a w → S L' a w)
    (step : ∀ k o L a w K, c ≤ k → k < c + n → ops[k]? = some o → L k = false → (∀ j, L j = true → ∀ b, (tab.getD j 0).testBit b = true → L b = true) →
      (∀ b, (tab.getD k 0).testBit b = true → L b = true) → S L a w → (∀ a' w', S (upd L k) a' w' → K a' w') → wpOp P ops Q k K a w)
    (next : ∀ fuel listed a w, listed.size = ops.size → (∀ j < ops.size, at' listed j = decide (j < c + n)) → cnt ops listed ≤ fuel → S (fun j => decide (j < c + n)) a w → wpAny P .any ops Q fuel listed a w) :
    ∀ (fuel : Nat) (listed : Array Bool) (a : Act) (w : World), listed.size = ops.size → (∀ j < c, at' listed j = true) → (∀ j, c + n ≤ j → at' listed j = false) →
      (∀ j, at' listed j = true → ∀ b, (tab.getD j 0).testBit b = true → at' listed b = true) → cnt ops listed ≤ fuel → S (at' listed) a w → wpAny P .any ops Q fuel listed a w := by
  intro fuel
  induction fuel with
  | zero =>
    intro listed a w hs h1 h2 hcl hcnt h
    refine next 0 listed a w hs (fun j hj => ?_) hcnt (hS _ _ a w (fun j hj1 hj2 => ?_) h)
    · have : at' listed j = true := by
        unfold cnt at hcnt
        have : ((List.range ops.size).filter fun j => !at' listed j) = [] := List.length_eq_zero_iff.1 (by omega)
        simpa using List.filter_eq_nil_iff.1 this j (List.mem_range.2 hj)
      rw [this]
      symm
      rw [decide_eq_true_eq]
      rcases Nat.lt_or_ge j (c + n) with h' | h'
      · exact h'
      · rw [h2 j h'] at this; cases this
    · unfold cnt at hcnt
      have : ((List.range ops.size).filter fun j => !at' listed j) = [] := List.length_eq_zero_iff.1 (by omega)
      have := List.filter_eq_nil_iff.1 this j (List.mem_range.2 (by omega))
      simp only [Bool.not_eq_true', Bool.not_eq_false] at this
      rw [this]; simp [hj2]
  | succ fuel ih =>
    intro listed a w hs h1 h2 hcl hcnt h
    by_cases hall : ∀ j, c ≤ j → j < c + n → at' listed j = true
    · refine next (fuel + 1) listed a w hs (fun j hj => ?_) hcnt (hS _ _ a w (fun j hj1 hj2 => ?_) h)
      · rcases Nat.lt_or_ge j c with h' | h'
        · rw [h1 j h']; simp; omega
        · rcases Nat.lt_or_ge j (c + n) with h'' | h''
          · rw [hall j h' h'']; simp [h'']
          · rw [h2 j h'']; simp; omega
      · rw [hall j hj1 hj2]; simp [hj2]
    · have hex : ∃ k, at' listed k = false ∧ k < c + n := by
        refine Classical.byContradiction fun hno => hall fun j hj1 hj2 => ?_
        cases hj : at' listed j with
        | true => rfl
        | false => exact absurd ⟨j, hj, hj2⟩ hno
      obtain ⟨k, ⟨hk, hkn⟩, hleast⟩ := exists_least hex
      have hkc : c ≤ k := by
        rcases Nat.lt_or_ge k c with h' | h'
        · rw [h1 k h'] at hk; cases hk
        · exact h'
      have before : ∀ j, j < k → at' listed j = true := fun j hj => by
        cases hj' : at' listed j with
        | true => rfl
        | false => have := hleast j ⟨hj', by omega⟩; omega
      have getTF : ∀ j, j < ops.size → listed.getD j true = at' listed j := fun j hj => by simp [at', hs, hj]
      have ready_k : k ∈ Region.ready .any ops listed := by
        rw [mem_ready]
        have hkl : k < ops.size := by omega
        refine ⟨by rw [getTF k hkl]; exact hk, ops[k], Array.getElem?_eq_getElem hkl, fun e he hb => ?_⟩
        have hm : e.on ∈ afters ops[k] := List.mem_map.2 ⟨e, List.mem_filter.2 ⟨by simpa using he, hb⟩, rfl⟩
        exact before _ (hM.back k _ (hM.here k _ (Array.getElem?_eq_getElem hkl) _ hm))
      refine ⟨fun e => (by rw [e] at ready_k; cases ready_k), fun i hi => ?_⟩
      obtain ⟨hi0, o, ho, hdir⟩ := mem_ready.1 hi
      have hil : i < ops.size := (Array.getElem?_eq_some_iff.1 ho).1
      have hiu : at' listed i = false := by rw [← getTF i hil]; exact hi0
      have hic : c ≤ i := by
        rcases Nat.lt_or_ge i c with h' | h'
        · rw [h1 i h'] at hiu; cases hiu
        · exact h'
      have hbits : ∀ b, (tab.getD i 0).testBit b = true → at' listed b = true := fun b hb => by
        obtain ⟨j, hj, h3⟩ := hM.bit i o b ho hb
        obtain ⟨e, he, rfl⟩ := List.mem_map.1 hj
        have hej : at' listed e.on = true := hdir e (by simpa using (List.mem_filter.1 he).1) (List.mem_filter.1 he).2
        rcases h3 with rfl | h3
        · exact hej
        · exact hcl _ hej b h3
      have hin : i < c + n := by
        rcases Nat.lt_or_ge i (c + n) with h' | h'
        · exact h'
        · have := hbits k (cutB_spec hcut h' (by rw [hM.len]; exact hil) hkn)
          rw [hk] at this; cases this
      have hset := at_set (listed := listed) (k := i) (by omega)
      refine step i o (at' listed) a w _ hic hin ho hiu hcl hbits h fun a' w' h' => ih _ a' w' (by simp [hs]) (fun j hj => ?_) (fun j hj => ?_) (fun j hj b hb => ?_) ?_ (by rw [hset]; exact h')
      · rw [hset]; unfold upd; split
        · rfl
        · exact h1 j hj
      · rw [hset]; unfold upd; rw [if_neg (by omega)]; exact h2 j hj
      · rw [hset] at hj ⊢
        unfold upd at hj ⊢
        split
        · rfl
        · split at hj
          · rename_i e; subst e; exact hbits b hb
          · exact hcl j hj b hb
      · have := cnt_set (ops := ops) hs hil hiu
        omega
end
end Go.Proofs.Ytlffmhhdgedddaa.DL

/- The data level, part 19a: what a store does to the slots, wherever it runs. -/
namespace Go.Proofs.Ytlffmhhdgedddaa.DL
open Go Go.RowKit

theorem kill_id {d : Nat} {x : SV} (h : d ∉ x.roots) : killSV d x = x := by simp [killSV, h]
theorem gt_set {sl : Sl} {t u : Nat} {y : SV} (h : t < sl.length) : gt (sl.set t y) u = if u = t then y else gt sl u := by
  unfold gt
  by_cases e : u = t
  · subst e; simp [List.getD_eq_getElem?_getD, h]
  · simp [List.getD_eq_getElem?_getD, List.getElem?_set_ne (Ne.symm e), e]
theorem gt_mem {sl : Sl} {t : Nat} (h : t < sl.length) : gt sl t ∈ sl := by
  unfold gt
  rw [List.getD_eq_getElem?_getD, List.getElem?_eq_getElem h]
  exact List.getElem_mem _
theorem gt_out {sl : Sl} {t : Nat} (h : sl.length ≤ t) : gt sl t = .dead := by
  unfold gt
  rw [List.getD_eq_getElem?_getD, List.getElem?_eq_none h]
  rfl
theorem map_same {keep : SV → SV} {sl : Sl} (h : ∀ y ∈ sl, keep y = y) : sl.map keep = sl := (List.map_congr_left h).trans (List.map_id _)

theorem kB_keep {X : SV} {s : Nat} {q : List Nat} {j n : Nat} {y : SV} (h : kB s y = true) : keepX X s q j n y = y := by
  by_cases hr : s ∈ y.roots
  · unfold kB at h
    have hc : y.roots.contains s = true := by simpa using hr
    rw [hc] at h
    simp only [Bool.not_true, Bool.false_or] at h
    split at h
    · simp only [keepX, keepW]
      split <;> rfl
    · simp only [keepX, keepD, keepC, hdOf]
      split <;> rfl
    · cases h
  · have oldC : ∀ c : CV, s ∉ c.roots → keepC (isBox X) s q j n c = c := fun c hc => by simp [keepC, hc]
    unfold keepX
    split
    · rename_i c
      rw [keepD_not (by simpa [SV.roots, RV.roots] using hr)]
    · rename_i cs
      congr 2
      refine (List.map_congr_left fun c hc => oldC c fun hr' => hr ?_).trans (List.map_id _)
      simp only [SV.roots, RV.roots, List.mem_flatMap]
      exact ⟨c, hc, hr'⟩
    · simp [keepW, hr]

theorem kBd_keep {X : SV} {s : Nat} {i : Nat} {q : List Nat} {j n : Nat} {y : SV} (hX : isBox X = true) (h : kBd s y = true) : keepX X s (i :: q) j n y = y := by
  by_cases hr : s ∈ y.roots
  · unfold kBd at h
    have hc : y.roots.contains s = true := by simpa using hr
    rw [hc] at h
    simp only [Bool.not_true, Bool.false_or] at h
    split at h
    · simp only [keepX, keepW]
      split <;> rfl
    · simp only [keepX, keepW, hX]
      split <;> rfl
    · simp only [keepX, keepD, keepC, hdOf]
      split <;> rfl
    · simp only [keepX, keepD, keepC, hdOf, hX]
      split <;> rfl
    · cases h
  · refine kB_keep ?_
    unfold kB
    have hc : y.roots.contains s = false := by simpa using hr
    rw [hc]; rfl
theorem kB_io {bx : Bool} {s : Nat} {p : List Nat} {y : SV} (h : kB s y = true) : keepIo bx s p y = y := by
  unfold keepIo
  split
  · rename_i hr
    unfold kB at h
    have hc : y.roots.contains s = true := by simpa using hr
    rw [hc] at h
    simp only [Bool.not_true, Bool.false_or] at h
    split at h
    · rfl
    · simp only [keepIoC]
      split <;> rfl
    · cases h
  · rfl

def setD (m : Sl) (tv : List Nat) : Sl :=
  match tv with
  | [t] => m.set t .dead
  | _ => m
theorem setD_length (m : Sl) (tv : List Nat) : (setD m tv).length = m.length := by
  unfold setD; split <;> simp

section
variable {tb : Tb} {sl sl2 : Sl}
/-- A store, in slots that agree on what it looks at. -/
theorem store_eff {ty : TypeId} {op : Op} {c : List Prop} {r : SV} {sl' : Sl} {s : Nat} {tv : List Nat} (hT : storeT tb sl ty op = some (s, tv)) (h : opV tb sl ty op = some (c, r, sl')) (hstv : s ∉ tv)
    (hk1 : ∀ y ∈ sl, kBk tv s y = true ∧ ∀ t ∈ tv, t ∉ y.roots) (hl : sl2.length = sl.length) (hok : ∀ x ∈ op.operands, OkOp sl sl2 x) (hss : gt sl2 s = gt sl s)
    (hk2 : ∀ y ∈ sl2, kBk tv s y = true ∧ ∀ t ∈ tv, t ∉ y.roots) :
    r = .und ∧ s < sl.length ∧ ∃ sl2', opV tb sl2 ty op = some (c, .und, sl2') ∧ sl2'.length = sl2.length ∧ ∀ q, q < sl2.length → gt sl2' q = if q = s then gt sl' s else if q ∈ tv then .dead else gt sl2 q := by
  cases op with
  | store t a x =>
    have ha := hok a (by simp [Op.operands])
    have hx := hok x (by simp [Op.operands])
    simp only [storeT] at hT
    split at hT
    · cases hT
    rename_i hnd
    split at hT
    · rename_i v sl1 hv
      split at hT
      · rename_i s' q j hp
        simp only [Option.some.injEq, Prod.mk.injEq] at hT
        obtain ⟨rfl, htv⟩ := hT
        have dmE : ∀ m : Sl, m.length = sl.length → setD m (deepT sl s' q) = m := fun m hm => by
          unfold deepT
          split
          · rename_i hc
            simp only [Bool.and_eq_true] at hc
            have := Nat.le_of_ble_eq_true hc.2
            simp only [setD]
            exact List.set_eq_of_length_le (by omega)
          · rfl
        have dmO : deepT sl s' q = [] ∨ ∃ u, deepT sl s' q = [u] := by
          unfold deepT
          split
          · exact .inr ⟨_, rfl⟩
          · exact .inl rfl
        have dmD : deepT sl s' q = [deepM] → (∃ i q', q = i :: q') ∧ isBox (gt sl s') = true := fun e => by
          unfold deepT at e
          split at e
          · rename_i hc
            simp only [Bool.and_eq_true, Bool.not_eq_true'] at hc
            refine ⟨?_, hc.1.2⟩
            cases q with
            | nil => simp at hc
            | cons i q' => exact ⟨i, q', rfl⟩
          · cases e
        -- what is taken
        have take : ∃ sl21, opTake tb ty sl2 x = some (v, sl21) ∧ sl1 = setD sl tv ∧ sl21 = setD sl2 tv ∧ (tv = [] ∨ ∃ u, tv = [u]) := by
          cases x with
          | tmp tx =>
            obtain ⟨e1, -⟩ := hx tx rfl
            simp only [opTake, takeT, Option.some.injEq] at hv ⊢
            rw [e1]
            dsimp only at htv
            split at hv
            · rename_i ho
              rw [if_pos ho] at htv
              subst htv
              simp only [Prod.mk.injEq] at hv
              obtain ⟨rfl, rfl⟩ := hv
              have k1 : sl.map (killSV tx) = sl := map_same fun y hy => kill_id ((hk1 y hy).2 tx (by simp))
              have k2 : sl2.map (killSV tx) = sl2 := map_same fun y hy => kill_id ((hk2 y hy).2 tx (by simp))
              refine ⟨_, by rw [if_pos ho], ?_, ?_, .inr ⟨tx, rfl⟩⟩
              · simp only [putT, setD, k1]; rw [kill_id (by simp [SV.roots])]
              · simp only [putT, setD, k2]; rw [kill_id (by simp [SV.roots])]
            · rename_i ho
              rw [if_neg ho] at htv
              subst htv
              simp only [Prod.mk.injEq] at hv
              obtain ⟨rfl, rfl⟩ := hv
              exact ⟨sl2, by rw [if_neg ho], (dmE _ rfl).symm, (dmE _ hl).symm, dmO⟩
          | const u =>
            dsimp only at htv
            subst htv
            simp only [opTake, Option.map_eq_some_iff, Prod.mk.injEq] at hv ⊢
            obtain ⟨z, g1, rfl, rfl⟩ := hv
            exact ⟨sl2, ⟨_, g1, rfl, rfl⟩, (dmE _ rfl).symm, (dmE _ hl).symm, dmO⟩
          | func f =>
            dsimp only at htv
            subst htv
            simp only [opTake, Option.some.injEq, Prod.mk.injEq] at hv ⊢
            obtain ⟨rfl, rfl⟩ := hv
            exact ⟨sl2, ⟨rfl, rfl⟩, (dmE _ rfl).symm, (dmE _ hl).symm, dmO⟩
          | global g => simp [opTake] at hv
        obtain ⟨sl21, hv2, rfl, rfl, hone⟩ := take
        have gtD : ∀ (m : Sl) (u : Nat), m.length = sl.length → gt (setD m tv) u = if u ∈ tv then .dead else gt m u := by
          intro m u hm
          rcases hone with rfl | ⟨w, rfl⟩
          · simp [setD]
          · simp only [setD, List.mem_singleton]
            by_cases hw : w < m.length
            · exact gt_set hw
            · rw [List.set_eq_of_length_le (by omega)]
              split
              · rename_i e; rw [e]; exact gt_out (by omega)
              · rfl
        have hagree : OkOp (setD sl tv) (setD sl2 tv) a := by
          intro ta e
          obtain ⟨e1, e2⟩ := ha ta e
          refine ⟨?_, fun r hr => ?_⟩
          · rw [gtD sl ta rfl, gtD sl2 ta hl]
            split
            · rfl
            · exact e1
          · rw [gtD sl ta rfl] at hr
            split at hr
            · cases hr
            · rw [gtD sl r rfl, gtD sl2 r hl]
              split
              · rfl
              · exact e2 r hr
        have hp2 : opView tb ty (setD sl2 tv) a = some (.ptr s' q j) := by rw [opView_loc hagree]; exact hp
        have hs1 : gt (setD sl tv) s' = gt sl s' := by rw [gtD sl s' rfl, if_neg hstv]
        have hs2 : gt (setD sl2 tv) s' = gt sl s' := by rw [gtD sl2 s' hl, if_neg hstv]; exact hss
        simp only [opV, hv, hv2, hp, hp2] at h ⊢
        cases hcs : cellsOf v with
        | none => rw [hcs] at h; cases h
        | some cs =>
          rw [hcs] at h
          dsimp only at h ⊢
          split at h
          · cases h
          · rename_i hlen
            rw [if_neg hlen]
            rw [hs1] at h
            rw [hs2]
            cases hso : setOk (gt sl s') q j cs.length cs with
            | none => rw [hso] at h; cases h
            | some c0 =>
              rw [hso] at h
              have hdp : (tv == [deepM] && !(s' == deepM)) = true → (∃ i q', q = i :: q') ∧ isBox (gt sl s') = true := fun e => by
                simp only [Bool.and_eq_true, beq_iff_eq] at e
                refine dmD ?_
                rw [← e.1, ← htv]
                cases x with
                | tmp tx =>
                  dsimp only at htv ⊢
                  split at htv
                  · rw [e.1] at htv
                    simp only [List.cons.injEq, and_true] at htv
                    simp [isDeepO, htv] at hnd
                  · rename_i ho; rw [if_neg ho]
                | _ => rfl
              have hnil : ∀ m : Sl, (∀ y ∈ m, kBk tv s' y = true) → refsX (gt sl s') s' q j cs.length m = [] := fun m hm => by
                by_cases hq : q = []
                · refine refsX_kB m fun y hy => ?_
                  have hy := hm y hy
                  unfold kBk at hy
                  split at hy
                  · rename_i e
                    obtain ⟨⟨i, q', hq'⟩, -⟩ := hdp e
                    rw [hq] at hq'; cases hq'
                  · exact hy
                · exact refsX_q (.inl hq) m
              have hsd : ∀ m : Sl, (∀ y ∈ m, kBk tv s' y = true ∧ ∀ t ∈ tv, t ∉ y.roots) → ∀ y ∈ setD m tv, kBk tv s' y = true := fun m hm y hy => by
                have hmm : y ∈ m ∨ y = .dead := by
                  rcases hone with h0 | ⟨w, h0⟩
                  · rw [h0] at hy; exact .inl hy
                  · rw [h0] at hy
                    simp only [setD] at hy
                    exact List.mem_or_eq_of_mem_set hy
                rcases hmm with g | g
                · exact (hm y g).1
                · rw [g]; unfold kBk; split <;> simp [kB, kBd, SV.roots]
              rw [hnil _ (hsd sl hk1)] at h
              rw [hnil _ (hsd sl2 hk2)]
              simp only [Option.map_some, Option.some.injEq, Prod.mk.injEq] at h
              obtain ⟨rfl, rfl, rfl⟩ := h
              have hlt : s' < sl.length := by
                refine Nat.lt_of_not_le fun hle => ?_
                rw [gt_out hle] at hso
                simp [setOk] at hso
              refine ⟨rfl, hlt, _, rfl, by simp [putW, setD_length], fun u hu => ?_⟩
              have kk : ∀ y : SV, kBk tv s' y = true → keepX (setCs (gt sl s') q j cs) s' q j cs.length y = y := fun y hy => by
                unfold kBk at hy
                split at hy
                · rename_i e
                  obtain ⟨⟨i, q', rfl⟩, hb⟩ := hdp e
                  refine kBd_keep ?_ hy
                  unfold setOk at hso
                  cases hgs : gt sl s' with
                  | box bs =>
                    rw [hgs] at hso
                    simp only [setCs]
                    dsimp only at hso
                    split at hso
                    · rfl
                    · cases hso
                  | _ => rw [hgs] at hb; cases hb
                · exact kB_keep hy
              have kp : ∀ (m : Sl), (∀ y ∈ m, kBk tv s' y = true ∧ ∀ t ∈ tv, t ∉ y.roots) → (setD m tv).map (keepX (setCs (gt sl s') q j cs) s' q j cs.length) = setD m tv := by
                intro m hm
                refine map_same fun y hy => kk y ?_
                have hmm : y ∈ m ∨ y = .dead := by
                  rcases hone with h0 | ⟨w, h0⟩
                  · rw [h0] at hy; exact .inl hy
                  · rw [h0] at hy
                    simp only [setD] at hy
                    exact List.mem_or_eq_of_mem_set hy
                rcases hmm with g | g
                · exact (hm y g).1
                · rw [g]; unfold kBk; split <;> simp [kB, kBd, SV.roots]
              simp only [putW]
              rw [kp sl hk1, kp sl2 hk2, gt_set (by rw [setD_length, hl]; exact hlt), gt_set (by rw [setD_length]; exact hlt), gtD sl2 u hl]
              simp
      · cases hT
    · cases hT
  | _ => simp [storeT] at hT
end
end Go.Proofs.Ytlffmhhdgedddaa.DL

/- The data level, part 19b: takings out of one tuple may run in the text's order. -/
namespace Go.Proofs.Ytlffmhhdgedddaa.DL
open Go Go.RowKit

section
variable {P : Program} {ops : Array Oper} {Q Q' : Exit → Act → World → Prop} {md : Region.Mode}

theorem upon_monoQ {o : Oper} {a : Act} {K : Act → World → Prop} (h : ∀ e a w, Q e a w → Q' e a w) {r : Result Next} (hr : o.upon P a K Q r) : o.upon P a K Q' r := by
  cases r with
  | ok n w' =>
    cases n <;> simp only [Oper.upon] at hr ⊢ <;>
      first
        | exact hr
        | exact Calls.mono hr (fun e w'' he => by cases e <;> first | exact he | exact h _ _ _ he | exact ⟨_, _, h _ _ _ he.choose_spec.choose_spec⟩)
  | halt x w' => cases x <;> simp only [Oper.upon] at hr ⊢ <;> first | exact hr | exact h _ _ _ hr
theorem wpOp_monoQ {i : Nat} {K : Act → World → Prop} {a : Act} {w : World} (h : ∀ e a w, Q e a w → Q' e a w) (hh : wpOp P ops Q i K a w) : wpOp P ops Q' i K a w := by
  unfold wpOp at *
  split
  · rename_i ho; simpa only [ho] using hh
  · rename_i o ho
    simp only [ho] at hh
    split
    · rename_i hw
      simp only [hw, if_true] at hh
      exact hh.imp (fun h1 => upon_monoQ h h1) fun ⟨h1, _, _, h2⟩ => ⟨h1, _, _, h _ _ _ h2⟩
    · rename_i hw
      simp only [hw] at hh
      exact hh
theorem wpAny_monoQ (h : ∀ e a w, Q e a w → Q' e a w) : ∀ (fuel : Nat) (listed : Array Bool) (a : Act) (w : World), wpAny P md ops Q fuel listed a w → wpAny P md ops Q' fuel listed a w
  | 0, _, _, _, hh => ⟨hh.1, h _ _ _ hh.2⟩
  | n + 1, _, _, _, hh => ⟨fun e => h _ _ _ (hh.1 e), fun i hi => wpOp_mono (fun _ _ => wpAny_monoQ h n _ _ _) (wpOp_monoQ h (hh.2 i hi))⟩

/-- A taking out of a tuple. -/
def IsTake (o : Oper) : Prop := o.guard = none ∧ ((∃ x n, o.op = .extract x n) ∨ ∃ x, o.op = .move x)
theorem take_inv {o : Oper} {i : Nat} {a : Act} {w : World} {K : Act → World → Prop} (hi : ops[i]? = some o) (hd : IsTake o) (hl : ¬ LetsOut Q) (h : wpOp P ops Q i K a w) :
    ∃ v, Go.Yields P ops o v a ∧ K (a.put o.dst v) w := by
  obtain ⟨hg, hd⟩ := hd
  have hw : Region.wanted o (yielded ops a.tmps) = true := by simp [Region.wanted, hg]
  unfold wpOp at h
  rw [hi] at h
  simp only [hw, if_true] at h
  rcases hd with ⟨x, n, hop⟩ | ⟨x, hop⟩
  rotate_left
  · rcases h with h | ⟨-, h⟩
    · unfold Oper.wp at h
      have e' : ∀ w, (execOp a.eval o).run P w = .ok (.value (a.eval x)) w := fun w => by
        simp only [execOp, hop]
        rfl
      rw [e'] at h
      exact ⟨a.eval x, .inl ⟨hw, e'⟩, h⟩
    · exact (hl h).elim
  rcases h with h | ⟨-, h⟩
  · unfold Oper.wp at h
    have e : ∀ w, (execOp a.eval o).run P w = (do pure (.value (← Instr.extract (a.eval x) n)) : Sem Next).run P w := fun w => by simp only [execOp, hop]
    cases hv : a.eval x with
    | tuple vs =>
      cases hu : vs[n]? with
      | some u =>
        have e' : ∀ w, (execOp a.eval o).run P w = .ok (.value u) w := fun w => by
          rw [e, hv]
          simp only [Instr.extract, hu]
          rfl
        rw [e'] at h
        exact ⟨u, .inl ⟨hw, e'⟩, h⟩
      | none =>
        rw [e, hv] at h
        simp only [Instr.extract, hu] at h
        exact h.elim
    | _ =>
      rw [e, hv] at h
      simp only [Instr.extract] at h
      exact h.elim
  · exact (hl h).elim

/-- With edges added. -/
structure Added (ops ops' : Array Oper) (tab : List Nat) : Prop where
  size : ops'.size = ops.size
  at' : ∀ j o, ops[j]? = some o → ∃ X : List Nat, ops'[j]? = some (addE o X) ∧ ∀ i ∈ X, i < j ∧ ∃ oi, ops[i]? = some oi ∧ IsTake oi ∧ (∀ b, (tab.getD i 0).testBit b = true → (tab.getD j 0).testBit b = true) ∧
    ∀ k ok, ops[k]? = some ok → k ≠ i → (tab.getD i 0).testBit k = false → i ∉ afters ok → oi.apart ops ok = true

theorem addE_afters (o : Oper) (X : List Nat) (e : Edge) : e ∈ (addE o X).after ↔ e ∈ o.after ∨ e.ground = .chain ∧ e.on ∈ X := by
  unfold addE
  simp only [Array.mem_append, List.mem_toArray, List.mem_map]
  constructor
  · rintro (h | ⟨i, hi, rfl⟩)
    · exact .inl h
    · exact .inr ⟨rfl, hi⟩
  · rintro (h | ⟨h1, h2⟩)
    · exact .inl h
    · refine .inr ⟨e.on, h2, ?_⟩
      cases e
      simp at h1
      simp [h1]
theorem mem_afters {o : Oper} {j : Nat} : j ∈ afters o ↔ ∃ e ∈ o.after, Region.binds .any e = true ∧ e.on = j := by
  unfold afters
  simp only [List.mem_map, List.mem_filter, Array.mem_toList_iff]
  constructor
  · rintro ⟨e, ⟨h1, h2⟩, h3⟩; exact ⟨e, h1, h2, h3⟩
  · rintro ⟨e, h1, h2, h3⟩; exact ⟨e, ⟨h1, h2⟩, h3⟩

variable {ops' : Array Oper} {tab : List Nat}
theorem Added.ready (hA : Added ops ops' tab) {listed : Array Bool} {j : Nat} : j ∈ Region.ready .any ops' listed ↔ j ∈ Region.ready .any ops listed ∧ ∀ o X, ops[j]? = some o → ops'[j]? = some (addE o X) → ∀ i ∈ X, listed.getD i false = true := by
  rw [mem_ready, mem_ready]
  constructor
  · rintro ⟨h0, o', ho', h1⟩
    have hj : j < ops.size := by rw [← hA.size]; exact (Array.getElem?_eq_some_iff.1 ho').1
    obtain ⟨X, hX, -⟩ := hA.at' j _ (Array.getElem?_eq_getElem hj)
    rw [hX] at ho'
    cases ho'
    refine ⟨⟨h0, _, Array.getElem?_eq_getElem hj, fun e he hb => h1 e ((addE_afters _ _ _).2 (.inl he)) hb⟩, fun o Y ho hY i hi => ?_⟩
    rw [Array.getElem?_eq_getElem hj] at ho
    cases ho
    rw [hX] at hY
    have hY : addE ops[j] X = addE ops[j] Y := by simpa using hY
    have : (⟨i, .chain⟩ : Edge) ∈ (addE ops[j] X).after := by rw [hY]; exact (addE_afters _ _ _).2 (.inr ⟨rfl, hi⟩)
    exact h1 _ this rfl
  · rintro ⟨⟨h0, o, ho, h1⟩, h2⟩
    obtain ⟨X, hX, -⟩ := hA.at' j o ho
    refine ⟨h0, _, hX, fun e he hb => ?_⟩
    rcases (addE_afters _ _ _).1 he with he | ⟨-, he⟩
    · exact h1 e he hb
    · exact h2 o X ho hX _ he

theorem addE_upon {o : Oper} {X : List Nat} {a : Act} {K : Act → World → Prop} {r : Result Next} : (addE o X).upon P a K Q r ↔ o.upon P a K Q r := by
  cases r with
  | ok n w' => cases n <;> exact Iff.rfl
  | halt x w' => cases x <;> exact Iff.rfl
theorem Added.yielded (hA : Added ops ops' tab) (ts : Array Value) : Go.yielded ops' ts = Go.yielded ops ts := by
  funext j
  unfold Go.yielded
  have : (ops'[j]?).bind (·.dst) = (ops[j]?).bind (·.dst) := by
    cases ho : ops[j]? with
    | none =>
      have : ops'[j]? = none := by
        rw [Array.getElem?_eq_none_iff] at ho ⊢
        rw [hA.size]; exact ho
      rw [this]
    | some o =>
      obtain ⟨X, hX, -⟩ := hA.at' j o ho
      rw [hX]; rfl
  rw [this]
theorem Added.wpOp (hA : Added ops ops' tab) {j : Nat} {K : Act → World → Prop} {a : Act} {w : World} (h : Go.wpOp P ops' Q j K a w) : Go.wpOp P ops Q j K a w := by
  unfold Go.wpOp at *
  cases ho : ops[j]? with
  | none =>
    have : ops'[j]? = none := by
      rw [Array.getElem?_eq_none_iff] at ho ⊢
      rw [hA.size]; exact ho
    rw [this] at h
    exact h
  | some o =>
    obtain ⟨X, hX, -⟩ := hA.at' j o ho
    rw [hX] at h
    dsimp only at h ⊢
    rw [hA.yielded] at h
    have e1 : Region.wanted (addE o X) (Go.yielded ops a.tmps) = Region.wanted o (Go.yielded ops a.tmps) := rfl
    rw [e1] at h
    split
    · rename_i hw
      simp only [hw, if_true] at h
      exact h.imp (fun h1 => addE_upon.1 h1) id
    · rename_i hw
      simp only [hw] at h
      exact h

/-- Closed: what must run ahead of all that has run has run. -/
def Closed (tab : List Nat) (listed : Array Bool) : Prop := ∀ j, at' listed j = true → ∀ b, (tab.getD j 0).testBit b = true → at' listed b = true

theorem ready_bits (hM : Masks ops tab) {listed : Array Bool} (hc : Closed tab listed) {j : Nat} (hj : j ∈ Region.ready .any ops listed) : ∀ b, (tab.getD j 0).testBit b = true → at' listed b = true := fun b hb => by
  obtain ⟨-, o, ho, h1⟩ := mem_ready.1 hj
  obtain ⟨i, hi, h2⟩ := hM.bit j o b ho hb
  obtain ⟨e, he, hb', rfl⟩ := mem_afters.1 hi
  rcases h2 with rfl | h2
  · exact h1 e he hb'
  · exact hc _ (h1 e he hb') _ h2
theorem getTF {listed : Array Bool} {j : Nat} (hj : j < listed.size) : listed.getD j true = at' listed j := by simp [at', hj]

theorem Added.pick (hA : Added ops ops' tab) (hM : Masks ops tab) {listed : Array Bool} (hs : listed.size = ops.size) (hc : Closed tab listed) : ∀ (n j : Nat), j ≤ n → j ∈ Region.ready .any ops listed → j ∉ Region.ready .any ops' listed →
    ∃ i oi, i ∈ Region.ready .any ops listed ∧ i ∈ Region.ready .any ops' listed ∧ ops[i]? = some oi ∧ IsTake oi ∧ ∀ k ok, ops[k]? = some ok → k ≠ i → (tab.getD i 0).testBit k = false → i ∉ afters ok → oi.apart ops ok = true := by
  intro n
  induction n with
  | zero =>
    intro j hj h1 h2
    obtain ⟨-, o, ho, -⟩ := mem_ready.1 h1
    obtain ⟨X, hX, hXs⟩ := hA.at' j o ho
    refine absurd (hA.ready.2 ⟨h1, fun o' Y ho' hY i hi => ?_⟩) h2
    rw [ho] at ho'; cases ho'
    rw [hX] at hY
    have hY : addE o X = addE o Y := by simpa using hY
    have : (⟨i, .chain⟩ : Edge) ∈ (addE o X).after := by rw [hY]; exact (addE_afters _ _ _).2 (.inr ⟨rfl, hi⟩)
    rcases (addE_afters _ _ _).1 this with h | ⟨-, h⟩
    · obtain ⟨-, o2, ho2, h3⟩ := mem_ready.1 h1
      rw [ho] at ho2; cases ho2
      exact h3 _ h rfl
    · have := (hXs i h).1; omega
  | succ n ih =>
    intro j hj h1 h2
    obtain ⟨hju, o, ho, h3⟩ := mem_ready.1 h1
    obtain ⟨X, hX, hXs⟩ := hA.at' j o ho
    have : ∃ i ∈ X, listed.getD i false = false := by
      refine Classical.byContradiction fun hno => h2 (hA.ready.2 ⟨h1, fun o' Y ho' hY i hi => ?_⟩)
      rw [ho] at ho'; cases ho'
      rw [hX] at hY
      have hY : addE o X = addE o Y := by simpa using hY
      have : (⟨i, .chain⟩ : Edge) ∈ (addE o X).after := by rw [hY]; exact (addE_afters _ _ _).2 (.inr ⟨rfl, hi⟩)
      rcases (addE_afters _ _ _).1 this with h | ⟨-, h⟩
      · exact h3 _ h rfl
      · cases hl : listed.getD i false with
        | true => rfl
        | false => exact absurd ⟨i, h, hl⟩ hno
    obtain ⟨i, hi, hil⟩ := this
    obtain ⟨hij, oi, hoi, ht, hb, hf⟩ := hXs i hi
    have his : i < ops.size := (Array.getElem?_eq_some_iff.1 hoi).1
    have hir : i ∈ Region.ready .any ops listed := by
      rw [mem_ready]
      refine ⟨by rw [getTF (by omega)]; exact hil, oi, hoi, fun e he hbd => ?_⟩
      exact ready_bits hM hc h1 _ (hb _ (hM.here i oi hoi _ (mem_afters.2 ⟨e, he, hbd, rfl⟩)))
    by_cases hir' : i ∈ Region.ready .any ops' listed
    · exact ⟨i, oi, hir, hir', hoi, ht, hf⟩
    · exact ih i (by omega) hir hir'

theorem Added.any (hA : Added ops ops' tab) (hM : Masks ops tab) (hsel : ∀ (j : Nat) (o : Oper) cs b, ops[j]? = some o → o.op ≠ .select cs b) (hp : ∀ c a w, ¬ Q (.panic c) a w) (hl : ¬ LetsOut Q) :
    ∀ (fuel : Nat) (listed : Array Bool) (a : Act) (w : World), listed.size = ops.size → Closed tab listed → wpAny P .any ops' Q fuel listed a w → wpAny P .any ops Q fuel listed a w := by
  intro fuel
  induction fuel with
  | zero =>
    intro listed a w hs hc h
    refine ⟨?_, h.2⟩
    cases hr : Region.ready .any ops listed with
    | nil => rfl
    | cons j r =>
      have hj : j ∈ Region.ready .any ops listed := by rw [hr]; exact List.mem_cons_self ..
      obtain ⟨i, _, _, h2, _⟩ := hA.pick hM hs hc j j (Nat.le_refl _) hj (by rw [h.1]; simp)
      rw [h.1] at h2; cases h2
  | succ fuel ih =>
    intro listed a w hs hc h
    have hc' : ∀ i, i ∈ Region.ready .any ops listed → Closed tab (listed.setIfInBounds i true) := fun i hi j hj b hb => by
      obtain ⟨-, o, ho, -⟩ := mem_ready.1 hi
      have his : i < listed.size := by rw [hs]; exact (Array.getElem?_eq_some_iff.1 ho).1
      rw [at_set his] at hj ⊢
      unfold DL.upd at hj ⊢
      split
      · rfl
      · split at hj
        · rename_i e; subst e; exact ready_bits hM hc hi b hb
        · exact hc j hj b hb
    by_cases hex : ∃ j, j ∈ Region.ready .any ops listed ∧ j ∉ Region.ready .any ops' listed
    · obtain ⟨j, h1, h2⟩ := hex
      obtain ⟨i, oi, g1, g2, g3, g4, g5⟩ := hA.pick hM hs hc j j (Nat.le_refl _) h1 h2
      obtain ⟨v, hy, hk⟩ := take_inv g3 g4 hl (hA.wpOp (h.2 i g2))
      refine wpAny_first g3 hsel (fun c a w hq => (hp _ _ _ hq).elim) fuel listed a w (fun k ok hk hki hku hno => g5 k ok hk hki ?_ fun hm => ?_) g1 hy (ih _ _ _ (by simp [hs]) (hc' i g1) hk)
      · cases hb : (tab.getD i 0).testBit k with
        | false => rfl
        | true =>
          have := ready_bits hM hc g1 k hb
          have hks : k < ops.size := (Array.getElem?_eq_some_iff.1 hk).1
          rw [getTF (by omega), this] at hku
          cases hku
      · obtain ⟨e, he, hb, h3⟩ := mem_afters.1 hm
        exact hno e he hb h3
    · have hall : ∀ j, j ∈ Region.ready .any ops listed → j ∈ Region.ready .any ops' listed := fun j hj => Classical.byContradiction fun hn => hex ⟨j, hj, hn⟩
      refine ⟨fun e => h.1 ?_, fun i hi => wpOp_mono (fun a' w' hk => ih _ _ _ (by simp [hs]) (hc' i hi) hk) (hA.wpOp (h.2 i (hall i hi)))⟩
      cases hr : Region.ready .any ops' listed with
      | nil => rfl
      | cons j r =>
        have hj : j ∈ Region.ready .any ops' listed := by rw [hr]; exact List.mem_cons_self ..
        have := (hA.ready.1 hj).1
        rw [e] at this; cases this

/-- The edges that 'strong' adds. -/
theorem strong_at (all : List Oper) (tab : List Nat) : ∀ (os : List Oper) (c j : Nat) (o : Oper), os[j]? = some o → (strong all tab os c)[j]? = some (addE o (addsTo all tab (c + j) o all 0))
  | [], _, j, o, h => by simp at h
  | o0 :: os, c, 0, o, h => by
    simp only [List.getElem?_cons_zero, Option.some.injEq] at h
    subst h
    rfl
  | o0 :: os, c, j + 1, o, h => by
    have := strong_at all tab os (c + 1) j o (by simpa using h)
    rw [show c + 1 + j = c + (j + 1) by omega] at this
    simpa [strong] using this
theorem strong_len (all : List Oper) (tab : List Nat) : ∀ (os : List Oper) (c : Nat), (strong all tab os c).length = os.length
  | [], _ => rfl
  | _ :: os, c => by simp [strong, strong_len all tab os]
theorem addsTo_mem {all : List Oper} {tab : List Nat} {j : Nat} {o : Oper} : ∀ (os : List Oper) (c i : Nat), i ∈ addsTo all tab j o os c → ∃ oi, os[i - c]? = some oi ∧ c ≤ i ∧ i < j ∧ sameTup oi o = true ∧ (tab.getD i 0 &&& tab.getD j 0) = tab.getD i 0 ∧ freeL all tab i oi all 0 = true
  | [], _, i, h => by simp [addsTo] at h
  | oi :: os, c, i, h => by
    simp only [addsTo] at h
    have rest : i ∈ addsTo all tab j o os (c + 1) → ∃ oi', (oi :: os)[i - c]? = some oi' ∧ c ≤ i ∧ i < j ∧ sameTup oi' o = true ∧ (tab.getD i 0 &&& tab.getD j 0) = tab.getD i 0 ∧ freeL all tab i oi' all 0 = true := fun h => by
      obtain ⟨o2, h1, h2, h3⟩ := addsTo_mem os (c + 1) i h
      refine ⟨o2, ?_, by omega, h3⟩
      rw [show i - c = (i - (c + 1)) + 1 by omega]
      simpa using h1
    split at h
    · rename_i hc
      rcases List.mem_cons.1 h with rfl | h
      · simp only [Bool.and_eq_true, beq_iff_eq] at hc
        exact ⟨oi, by simp, Nat.le_refl _, Nat.le_of_ble_eq_true hc.1.1.1, hc.1.1.2, hc.1.2, hc.2⟩
      · exact rest h
    · exact rest h
theorem freeL_spec {all : List Oper} {tab : List Nat} {i : Nat} {oi : Oper} : ∀ (os : List Oper) (c k : Nat) (ok : Oper), freeL all tab i oi os c = true → os[k]? = some ok → c + k ≠ i → (tab.getD i 0).testBit (c + k) = false → i ∉ afters ok → apartL all oi ok = true
  | [], _, k, ok, _, h, _, _, _ => by simp at h
  | o :: os, c, 0, ok, hf, h, h1, h2, h3 => by
    simp only [List.getElem?_cons_zero, Option.some.injEq] at h
    subst h
    simp only [freeL, Bool.and_eq_true, Bool.or_eq_true, beq_iff_eq] at hf
    rcases hf.1 with ((h | h) | h) | h
    · exact absurd h h1
    · rw [Nat.add_zero] at h2; rw [h2] at h; cases h
    · exact absurd (by simpa using h) h3
    · exact h
  | o :: os, c, k + 1, ok, hf, h, h1, h2, h3 => by
    simp only [freeL, Bool.and_eq_true] at hf
    exact freeL_spec os (c + 1) k ok hf.2 (by simpa using h) (by omega) (by rw [show c + 1 + k = c + (k + 1) by omega]; exact h2) h3
theorem looksAt_eq (ops : Array Oper) (o : Oper) : o.looksAt ops = tmpsOf o ++ guardSl ops.toList o := by
  unfold Oper.looksAt tmpsOf guardSl guardT
  congr 1
  cases o.guard with
  | none => rfl
  | some gw => simp
theorem apartL_spec {x y : Oper} (hg : x.guard = none) (h : apartL ops.toList x y = true) : x.apart ops y = true := by
  unfold apartL at h
  split at h
  · rename_i d hd
    simp only [Bool.and_eq_true] at h
    obtain ⟨⟨h1, h2⟩, h3⟩ := h
    have hx : x.looksAt ops = tmpsOf x := by rw [looksAt_eq]; simp [guardSl, hg]
    unfold Oper.apart
    rw [hd, looksAt_eq ops y, hx]
    simp only [Bool.and_eq_true]
    refine ⟨⟨h1, h2⟩, ?_⟩
    cases hy : y.dst with
    | none => rfl
    | some d' => rw [hy] at h3; exact h3
  · cases h
theorem strong_added {ops : Array Oper} {tab : List Nat} : Added ops (strong ops.toList tab ops.toList 0).toArray tab := by
  refine ⟨by simp [strong_len], fun j o ho => ?_⟩
  have ho' : ops.toList[j]? = some o := by simpa using ho
  have := strong_at ops.toList tab ops.toList 0 j o ho'
  rw [Nat.zero_add] at this
  refine ⟨_, by simpa using this, fun i hi => ?_⟩
  obtain ⟨oi, h1, -, h3, h4, h5, h6⟩ := addsTo_mem _ _ _ hi
  have hoi : ops[i]? = some oi := by simpa using h1
  have ht : IsTake oi := by
    unfold sameTup at h4
    split at h4
    · rename_i e1
      split at h4
      · simp only [Bool.and_eq_true, Option.isNone_iff_eq_none] at h4
        exact ⟨h4.2.1, .inl ⟨_, _, e1⟩⟩
      · cases h4
    · rename_i e1
      exact ⟨by simpa using h4, .inr ⟨_, e1⟩⟩
    · cases h4
  refine ⟨h3, oi, hoi, ht, fun b hb => ?_, fun k ok hk h7 h8 h9 => ?_⟩
  · rw [← h5, Nat.testBit_and, Bool.and_eq_true] at hb
    exact hb.2
  · exact apartL_spec ht.1 (freeL_spec ops.toList 0 k ok h6 (by simpa using hk) (by omega) (by rw [Nat.zero_add]; exact h8) h9)
end
end Go.Proofs.Ytlffmhhdgedddaa.DL

/- The data level, part 20: regions whose operations may run in more than one order. -/
namespace Go.Proofs.Ytlffmhhdgedddaa.DL
open Go Go.RowKit

abbrev Ups := List (Nat × SV)

/-- 'append' of slot u's slice to what slot s owns, into slot d. -/
structure AppO (C : Cfg) (o : Oper) (s u d : Nat) (ty : TypeId) : Prop where
  dst : o.dst = some d
  guard : o.guard = none
  op : ∃ c, o.op = .call c ∧ c.callee = .builtin .append ∧ c.args.toList = [.tmp s, .tmp u] ∧ c.argTypes.toList = [ty, ty]
  x : isX C o = true
  b : boxIo C o = none

theorem kB_B {s : Nat} {y : SV} (h : kB s y = true) : keepB s y = y := by
  unfold keepB
  split
  · rename_i hr
    unfold kB at h
    have hc : y.roots.contains s = true := by simpa using hr
    rw [hc] at h
    simp only [Bool.not_true, Bool.false_or] at h
    split at h
    · rfl
    · rfl
    · cases h
  · rfl
/-- Slots that are emptied. -/
def killL (m : Sl) : List Nat → Sl
  | [] => m
  | t :: ts => killL (m.set t .dead) ts
theorem killL_length : ∀ (ts : List Nat) (m : Sl), (killL m ts).length = m.length
  | [], _ => rfl
  | t :: ts, m => by rw [killL, killL_length ts, List.length_set]
theorem gt_dead (m : Sl) (t q : Nat) : gt (m.set t .dead) q = if q = t then .dead else gt m q := by
  by_cases h : t < m.length
  · exact gt_set h
  · rw [List.set_eq_of_length_le (by omega)]
    split
    · rename_i e; rw [e]; exact gt_out (by omega)
    · rfl
theorem gt_killL : ∀ (ts : List Nat) (m : Sl) (q : Nat), gt (killL m ts) q = if q ∈ ts then .dead else gt m q
  | [], m, q => by simp [killL]
  | t :: ts, m, q => by
    rw [killL, gt_killL ts, gt_dead]
    by_cases h1 : q ∈ ts
    · simp [h1]
    · by_cases h2 : q = t <;> simp [h1, h2]
theorem mem_killL : ∀ (ts : List Nat) (m : Sl) (y : SV), y ∈ killL m ts → y ∈ m ∨ y = .dead
  | [], _, _, h => .inl h
  | t :: ts, m, y, h => by
    rcases mem_killL ts _ y h with h | h
    · exact List.mem_or_eq_of_mem_set h
    · exact .inr h
section
variable {tb : Tb}
theorem take_own {sl sl2 sl1 : Sl} {x : Operand} {v : SV} {T : List Nat} (h : opTake tb 0 sl x = some (v, sl1)) (hok : OkOp sl sl2 x) (h1 : ∀ y ∈ sl, ∀ t ∈ T, t ∉ y.roots) (h2 : ∀ y ∈ sl2, ∀ t ∈ T, t ∉ y.roots)
    (hT : ∀ t, x = .tmp t → (gt sl t).isOwn = true → t ∈ T) :
    (sl1 = sl ∧ opTake tb 0 sl2 x = some (v, sl2) ∧ ∀ i ps, owns sl ((i, x) :: ps) = owns sl ps) ∨
    ∃ t ∈ T, sl1 = sl.set t .dead ∧ opTake tb 0 sl2 x = some (v, sl2.set t .dead) ∧ ∀ i ps, owns sl ((i, x) :: ps) = t :: owns (sl.set t .dead) ps := by
  cases x with
  | tmp t =>
    obtain ⟨e1, -⟩ := hok t rfl
    simp only [opTake, takeT, Option.some.injEq] at h ⊢
    rw [e1]
    by_cases ho : (gt sl t).isOwn = true
    · rw [if_pos ho] at h ⊢
      have ht := hT t rfl ho
      have p : ∀ m : Sl, (∀ y ∈ m, ∀ t ∈ T, t ∉ y.roots) → putT m t .dead = m.set t .dead := fun m hm => by
        simp only [putT]
        rw [map_same fun y hy => kill_id (hm y hy t ht), kill_id (by simp [SV.roots])]
      rw [p sl h1] at h
      rw [p sl2 h2]
      simp only [Prod.mk.injEq] at h
      obtain ⟨rfl, rfl⟩ := h
      exact .inr ⟨t, ht, rfl, rfl, fun i ps => by simp only [owns, ho, if_true]⟩
    · rw [if_neg ho] at h ⊢
      simp only [Prod.mk.injEq] at h
      obtain ⟨rfl, rfl⟩ := h
      exact .inl ⟨rfl, rfl, fun i ps => by simp only [owns]; rw [if_neg ho]⟩
  | const u =>
    simp only [opTake, Option.map_eq_some_iff, Prod.mk.injEq] at h ⊢
    obtain ⟨z, g1, rfl, rfl⟩ := h
    exact .inl ⟨rfl, ⟨_, g1, by simp⟩, fun i ps => rfl⟩
  | func f =>
    simp only [opTake, Option.some.injEq, Prod.mk.injEq] at h ⊢
    obtain ⟨rfl, rfl⟩ := h
    exact .inl ⟨rfl, by simp, fun i ps => rfl⟩
  | global g => simp [opTake] at h
theorem parts_own {pl : Nat → Option (Nat × Nat)} {total : Nat} {T : List Nat} : ∀ (ps : List (Nat × Operand)) (sl sl2 : Sl) (r : List (Nat × List CV)) (sl' : Sl), takeParts tb pl total sl ps = some (r, sl') → (∀ p ∈ ps, OkOp sl sl2 p.2) →
    (∀ y ∈ sl, ∀ t ∈ T, t ∉ y.roots) → (∀ y ∈ sl2, ∀ t ∈ T, t ∉ y.roots) → (∀ t ∈ owns sl ps, t ∈ T) → sl' = killL sl (owns sl ps) ∧ takeParts tb pl total sl2 ps = some (r, killL sl2 (owns sl ps))
  | [], sl, sl2, r, sl', h, _, _, _, _ => by
    simp only [takeParts, Option.some.injEq, Prod.mk.injEq] at h ⊢
    obtain ⟨rfl, rfl⟩ := h
    exact ⟨rfl, rfl, rfl⟩
  | (i, x) :: ps, sl, sl2, r, sl', h, hok, h1, h2, hT => by
    simp only [takeParts] at h ⊢
    cases hpl : pl i with
    | none => rw [hpl] at h; cases h
    | some on =>
      obtain ⟨o, n⟩ := on
      rw [hpl] at h
      cases ht : opTake tb 0 sl x with
      | none => rw [ht] at h; cases h
      | some vs =>
        obtain ⟨v, sl1⟩ := vs
        rw [ht] at h
        simp only at h
        cases hp : partC v with
        | none => rw [hp] at h; cases h
        | some cs =>
          rw [hp] at h
          cases hq : takeParts tb pl total sl1 ps with
          | none => rw [hq] at h; cases h
          | some rs =>
            obtain ⟨r0, s0⟩ := rs
            rw [hq] at h
            simp only at h
            rcases take_own ht (hok _ (List.mem_cons_self ..)) h1 h2 (fun t e ho => hT t (by subst e; simp only [owns, ho, if_true]; exact List.mem_cons_self ..)) with ⟨e1, e2, e3⟩ | ⟨t, htT, e1, e2, e3⟩
            · subst e1
              obtain ⟨g1, g2⟩ := parts_own ps sl1 sl2 r0 s0 hq (fun p hp => hok p (List.mem_cons_of_mem _ hp)) h1 h2 (fun t ht => hT t (by rw [e3]; exact ht))
              rw [e2, e3]
              simp only [hp, g2]
              split at h
              · rename_i hc
                cases h
                exact ⟨g1, by rw [if_pos hc]⟩
              · cases h
            · subst e1
              have clean : ∀ m : Sl, (∀ y ∈ m, ∀ t ∈ T, t ∉ y.roots) → ∀ y ∈ m.set t .dead, ∀ t ∈ T, t ∉ y.roots := fun m hm y hy => by
                rcases List.mem_or_eq_of_mem_set hy with hy | rfl
                · exact hm y hy
                · intro t _; simp [SV.roots]
              obtain ⟨g1, g2⟩ := parts_own ps (sl.set t .dead) (sl2.set t .dead) r0 s0 hq (fun p hp u hu => by
                obtain ⟨k1, k2⟩ := hok p (List.mem_cons_of_mem _ hp) u hu
                refine ⟨by rw [gt_dead, gt_dead, k1], fun r hr => ?_⟩
                rw [gt_dead] at hr
                split at hr
                · simp [SV.roots] at hr
                · rw [gt_dead, gt_dead, k2 r hr]) (clean sl h1) (clean sl2 h2) (fun u hu => hT u (by rw [e3]; exact List.mem_cons_of_mem _ hu))
              rw [e2, e3]
              simp only [hp, g2, killL]
              split at h
              · rename_i hc
                cases h
                exact ⟨g1, by rw [if_pos hc]⟩
              · cases h
theorem bld_own {sl sl2 sl' : Sl} {ty : TypeId} {o : Oper} {tv : List Nat} {cs : List Prop} {x : SV} (hb : bldT sl o = some tv) (h : opV tb sl ty o.op = some (cs, x, sl')) (hok : ∀ y ∈ o.op.operands, OkOp sl sl2 y)
    (h1 : ∀ y ∈ sl, ∀ t ∈ tv, t ∉ y.roots) (h2 : ∀ y ∈ sl2, ∀ t ∈ tv, t ∉ y.roots) : sl' = killL sl tv ∧ opV tb sl2 ty o.op = some (cs, x, killL sl2 tv) := by
  unfold bldT at hb
  split at hb
  · rename_i t ps hop
    cases hb
    rw [hop] at h hok ⊢
    simp only [opV] at h ⊢
    have hp : ∀ p ∈ ps.toList, OkOp sl sl2 p.2 := fun p hp => hok p.2 (by simp only [Op.operands]; exact List.mem_toArray.2 (List.mem_map.2 ⟨p, hp, rfl⟩))
    split at h
    · rename_i offs hk
      simp only [Option.map_eq_some_iff, Prod.mk.injEq] at h ⊢
      obtain ⟨⟨r, s0⟩, g1, rfl, rfl, rfl⟩ := h
      obtain ⟨k1, k2⟩ := parts_own ps.toList sl sl2 r _ g1 hp h1 h2 (fun _ h => h)
      exact ⟨k1, _, k2, rfl, rfl, rfl⟩
    · rename_i n e hk
      split at h
      · rename_i hc
        rw [if_pos hc]
        simp only [Option.map_eq_some_iff, Prod.mk.injEq] at h ⊢
        obtain ⟨⟨r, s0⟩, g1, rfl, rfl, rfl⟩ := h
        obtain ⟨k1, k2⟩ := parts_own ps.toList sl sl2 r _ g1 hp h1 h2 (fun _ h => h)
        exact ⟨k1, _, k2, rfl, rfl, rfl⟩
      · cases h
    · cases h
  · rename_i t len ps hop
    cases hb
    rw [hop] at h hok ⊢
    simp only [opV] at h ⊢
    have hp : ∀ p ∈ ps.toList, OkOp sl sl2 p.2 := fun p hp => hok p.2 (by simp only [Op.operands]; exact List.mem_toArray.2 (List.mem_map.2 ⟨p, hp, rfl⟩))
    split at h
    · rename_i e hk
      split at h
      · rename_i hc
        rw [if_pos hc]
        split at h
        · rename_i r g1
          obtain ⟨r, s0⟩ := r
          split at h
          · rename_i hf
            simp only [Option.some.injEq, Prod.mk.injEq] at h
            obtain ⟨rfl, rfl, rfl⟩ := h
            obtain ⟨k1, k2⟩ := parts_own ps.toList sl sl2 r _ g1 hp h1 h2 (fun _ h => h)
            refine ⟨k1, ?_⟩
            rw [k2]
            simp only
            rw [if_pos hf]
          · cases h
        · cases h
      · cases h
    · cases h
  · cases hb
end
/-- 'append' of what one slot owns to what another one owns. -/
theorem app_own {tb : Tb} {m sl' : Sl} {ty : TypeId} {s u : Nat} {cs : List Prop} {x : SV} (h : appV tb m ty (.tmp s) (.tmp u) = some (cs, x, sl')) (hs : ownForm (gt m s) = true) (hu : ownForm (gt m u) = true) (hus : u ≠ s)
    (hc : ∀ y ∈ m, ∀ t ∈ [s, u], t ∉ y.roots) : sl' = killL m [s, u] ∧ ∀ m2 : Sl, gt m2 s = gt m s → gt m2 u = gt m u → (∀ y ∈ m2, ∀ t ∈ [s, u], t ∉ y.roots) → appV tb m2 ty (.tmp s) (.tmp u) = some (cs, x, killL m2 [s, u]) := by
  have all : ∀ m2 : Sl, gt m2 s = gt m s → gt m2 u = gt m u → (∀ y ∈ m2, ∀ t ∈ [s, u], t ∉ y.roots) → appV tb m2 ty (.tmp s) (.tmp u) = (appV tb m ty (.tmp s) (.tmp u)).map fun r => (r.1, r.2.1, killL m2 [s, u]) := by
    intro m2 e1 e2 hc2
    have put0 : ∀ (z : Sl) (t : Nat), (∀ y ∈ z, t ∉ y.roots) → putT z t .dead = z.set t .dead := fun z t hz => by
      simp only [putT]
      rw [map_same fun y hy => kill_id (hz y hy), kill_id (by simp [SV.roots])]
    have form : ∀ {y : SV}, ownForm y = true → ∃ d, y = .one (.cell (.own d)) := fun {y} hy => by
      unfold ownForm at hy
      split at hy
      · exact ⟨_, rfl⟩
      · cases hy
    obtain ⟨d1, f1⟩ := form hs
    obtain ⟨d2, f2⟩ := form hu
    have tk : ∀ z : Sl, gt z s = .one (.cell (.own d1)) → (∀ y ∈ z, ∀ t ∈ [s, u], t ∉ y.roots) → takeT z s = (.one (.cell (.own d1)), z.set s .dead) := fun z hz hcz => by
      unfold takeT
      rw [hz, put0 z s fun y hy => hcz y hy s (by simp)]
      simp [SV.isOwn, RV.isOwn, CV.isOwn, killSV, SV.roots, RV.roots, CV.roots]
    have pu : ∀ z : Sl, (∀ y ∈ z, ∀ t ∈ [s, u], t ∉ y.roots) → putT (z.set s .dead) u .dead = killL z [s, u] := fun z hcz => by
      refine put0 _ u fun y hy => ?_
      rcases List.mem_or_eq_of_mem_set hy with h | h
      · exact hcz y h u (by simp)
      · rw [h]; simp [SV.roots]
    have gu : ∀ z : Sl, gt (z.set s .dead) u = gt z u := fun z => by rw [gt_dead, if_neg hus]
    have g1 : gt (m.set s .dead) u = .one (.cell (.own d2)) := (gu m).trans f2
    have g2 : gt (m2.set s .dead) u = .one (.cell (.own d2)) := (gu m2).trans (e2.trans f2)
    simp only [appV, opTake, tk m f1 hc, tk m2 (e1.trans f1) hc2]
    cases (tb ty).k with
    | slice e =>
      cases d1 with
      | sl sz es =>
        simp only [g1, g2]
        cases d2 with
        | sl sz2 es2 => simp [pu m2 hc2]
        | val _ => simp only [view, g1, g2, sliceD, Option.map_none]
      | val _ => rfl
    | _ => rfl
  have hm := all m rfl rfl hc
  rw [h] at hm
  simp only [Option.map_some, Option.some.injEq, Prod.mk.injEq, true_and] at hm
  refine ⟨hm, fun m2 e1 e2 hc2 => ?_⟩
  rw [all m2 e1 e2 hc2, h]
  rfl
/-- The text's own run of a segment: what each operation sets, and what was looked at. -/
inductive Run (P : Program) (C : Cfg) (ops : List Oper) (tab : List Nat) (wr : List (Nat × Nat × List Nat)) (seg : List Oper) (c : Nat) : List Oper → Nat → Sl → List Ups → Sl → Prop
  | nil {k : Nat} {sl : Sl} : Run P C ops tab wr seg c [] k sl [] sl
  | st {o : Oper} {os : List Oper} {k d : Nat} {sl sl' : Sl} {x : SV} {us : List Ups} : wr.lookup k = none → (still sl o.op && rdO C o) = true → footOk C.tb ops tab wr seg c o k sl = true → StepR P C ops o sl x sl →
      o.dst = some d → (∀ t ∈ C.pin, o.dst ≠ some t) → (∀ t ∈ (gt (put sl (some d) x) d).roots, hangOk tab wr k t seg c = true) → kBs wr (gt (put sl (some d) x) d) = true →
      Run P C ops tab wr seg c os (k + 1) (put sl (some d) x) us sl' → Run P C ops tab wr seg c (o :: os) k sl ([(d, killSV d x)] :: us) sl'
  | wr {o : Oper} {os : List Oper} {k s : Nat} {tv : List Nat} {sl sl1 sl' : Sl} {cs : List Prop} {x : SV} {us : List Ups} : wr.lookup k = some (s, tv) → isX C o = false → o.dst = none → o.guard = none →
      storeT C.tb sl o.type o.op = some (s, tv) → s ∉ tv → (∀ t ∈ foot ops o sl ++ (s :: tv), lookOk tab wr k t seg c = true) → (∀ y ∈ sl, kBk tv s y = true ∧ ∀ t ∈ tv, t ∉ y.roots) →
      opV C.tb sl o.type o.op = some (cs, x, sl1) → (∀ p ∈ cs, p) → (ownForm (gt sl s) = ownForm (gt sl1 s) ∧ bxI (gt sl s) = bxI (gt sl1 s)) → ((gt sl1 s).roots = [] ∧ (tv = [deepM] → boxForm (gt sl s) = boxForm (gt sl1 s) ∧ (gt sl s).roots = [])) →
      Run P C ops tab wr seg c os (k + 1) sl1 us sl' → Run P C ops tab wr seg c (o :: os) k sl (((s, gt sl1 s) :: tv.map fun t => (t, SV.dead)) :: us) sl'
  | ap {o : Oper} {os : List Oper} {k s u d : Nat} {sl sl' : Sl} {ty : TypeId} {cs : List Prop} {x : SV} {us : List Ups} : wr.lookup k = some (s, [s]) → AppO C o s u d ty → (∀ t ∈ C.pin, o.dst ≠ some t) → ownForm (gt sl s) = true → (gt sl u).isOwn = false →
      u ≠ s → d ≠ s → s < sl.length → (∀ t ∈ foot ops o sl ++ [s], lookOk tab wr k t seg c = true) → (∀ y ∈ sl, s ∉ y.roots) → appV C.tb sl ty (.tmp s) (.tmp u) = some (cs, x, sl.set s .dead) → (∀ p ∈ cs, p) → x.roots = [] →
      Run P C ops tab wr seg c os (k + 1) (put (sl.set s .dead) (some d) x) us sl' → Run P C ops tab wr seg c (o :: os) k sl ([(d, x), (s, SV.dead)] :: us) sl'
  | gen {o : Oper} {os : List Oper} {k s d : Nat} {tv : List Nat} {sl sl' : Sl} {x X : SV} {us : List Ups} : wr.lookup k = some (s, tv) → (∀ t ∈ tv, t = s) → o.dst = some d → (∀ t ∈ C.pin, o.dst ≠ some t) → d ≠ s → s < sl.length →
      (∀ t ∈ foot ops o sl ++ [s], lookOk tab wr k t seg c = true) → (∀ y ∈ sl, kB s y = true ∧ ∀ t ∈ tv, t ∉ y.roots) →
      (∀ m : Sl, m.length = sl.length → (∀ t ∈ foot ops o sl ++ [s], gt m t = gt sl t) → (∀ y ∈ m, kB s y = true ∧ ∀ t ∈ tv, t ∉ y.roots) → StepR P C ops o m x (m.set s X)) → (killSV d x).roots = [] → (killSV d X).roots = [] → (s ∉ tv → ownForm (gt sl s) = ownForm (killSV d X) ∧ bxI (gt sl s) = bxI (killSV d X)) →
      Run P C ops tab wr seg c os (k + 1) (put (sl.set s X) (some d) x) us sl' → Run P C ops tab wr seg c (o :: os) k sl ([(d, killSV d x), (s, killSV d X)] :: us) sl'
  | gl {o : Oper} {os : List Oper} {k s d : Nat} {tv : List Nat} {sl sl' : Sl} {x : SV} {us : List Ups} : wr.lookup k = some (s, tv) → s ∈ tv → o.dst = some d → (∀ t ∈ C.pin, o.dst ≠ some t) → d ∉ tv →
      (∀ t ∈ foot ops o sl ++ tv, lookOk tab wr k t seg c = true) → (∀ y ∈ sl, ∀ t ∈ tv, t ∉ y.roots) →
      (∀ m : Sl, m.length = sl.length → (∀ t ∈ foot ops o sl ++ tv, gt m t = gt sl t) → (∀ y ∈ m, ∀ t ∈ tv, t ∉ y.roots) → StepR P C ops o m x (killL m tv)) → (killSV d x).roots = [] →
      Run P C ops tab wr seg c os (k + 1) (put (killL sl tv) (some d) x) us sl' → Run P C ops tab wr seg c (o :: os) k sl (((d, killSV d x) :: tv.map fun t => (t, SV.dead)) :: us) sl'

section
variable {P : Program} {C : Cfg} {ops : List Oper} {tab : List Nat} {wr : List (Nat × Nat × List Nat)} {seg : List Oper} {c : Nat}

theorem storeT_op {tb : Tb} {sl : Sl} {ty : TypeId} {op : Op} {r : Nat × List Nat} (h : storeT tb sl ty op = some r) : ∃ t a x, op = .store t a x := by
  cases op with
  | store t a x => exact ⟨t, a, x, rfl⟩
  | _ => simp [storeT] at h

theorem kB_not {s : Nat} {y : SV} (h : s ∉ y.roots) : kB s y = true := by
  unfold kB
  have : y.roots.contains s = false := by simpa using h
  rw [this]; rfl
theorem takeX_step {o : Oper} {s : Nat} {m : Sl} {x X : SV} (h : takeX C o s (gt m s) = some (x, X)) (hr : ∀ y ∈ m, s ∉ y.roots) (hs : s < m.length) : StepR P C ops o m x (m.set s X) := by
  have hroot := hr _ (gt_mem hs)
  have hk : killSV s (gt m s) = gt m s := kill_id hroot
  have hm : m.map (killSV s) = m := map_same fun y hy => kill_id (hr y hy)
  have put0 : ∀ v : SV, s ∉ v.roots → putT m s v = m.set s v := fun v hv => by unfold putT; rw [hm, kill_id hv]
  have take : (gt m s).isOwn = true → takeT m s = (gt m s, m.set s .dead) := fun ho => by
    unfold takeT
    rw [if_pos ho, hk, put0 .dead (by simp [SV.roots])]
  unfold takeX at h
  split at h
  · rename_i t hop
    split at h
    · rename_i hc
      simp only [Bool.and_eq_true, beq_iff_eq, Option.isNone_iff_eq_none] at hc
      obtain ⟨rfl, hg, hown⟩ := hc
      split at h
      · rename_i hx
        cases h
        simp only [StepR, hg, OutR, hx, if_true, OutX, hop]
        exact take hown
      · rename_i hx
        have go : some (gt m t, SV.dead) = some (x, X) → opV C.tb m o.type (.move (.tmp t)) = some ([], takeT m t) → StepR P C ops o m x (m.set t X) := fun e1 e2 => by
          cases e1
          simp only [StepR, hg, OutR, hx, OutR0, hop]
          exact ⟨[], by rw [e2, take hown], by simp⟩
        split at h
        · rename_i rs e
          exact go (by rw [e]; exact h) (by simp only [opV, e])
        · rename_i cs e
          exact go (by rw [e]; exact h) (by simp only [opV, e])
        · cases h
    · cases h
  · rename_i t hop
    split at h
    · rename_i hc
      simp only [Bool.and_eq_true, beq_iff_eq, Option.isNone_iff_eq_none] at hc
      obtain ⟨rfl, hg, hown⟩ := hc
      cases h
      have hx : isX C o = false := by unfold isX; rw [hop]
      simp only [StepR, hg, OutR, hx, Bool.false_eq_true, if_false, OutR0, hop]
      exact ⟨[], by simp only [opV, opTake, take hown, Option.map_some], by simp⟩
    · cases h
  · rename_i t i hop
    split at h
    · rename_i hc
      simp only [Bool.and_eq_true, beq_iff_eq, Option.isNone_iff_eq_none] at hc
      obtain ⟨rfl, hg⟩ := hc
      split at h
      · rename_i rs e
        split at h
        · rename_i r hri
          split at h
          · rename_i hown
            cases h
            have hx : isX C o = false := by unfold isX; rw [hop]
            rw [e] at hroot
            have hrr : ∀ r ∈ rs, t ∉ r.roots := fun r hr' hm' => hroot (by simp only [SV.roots, List.mem_flatMap]; exact ⟨r, hr', hm'⟩)
            have e1 : killSV t (.one r) = .one r := kill_id (hrr r (List.mem_of_getElem? hri))
            have e2 : putT m t (.tup (rs.set i (.cell .un))) = m.set t (.tup (rs.set i (.cell .un))) := put0 _ (by
              simp only [SV.roots, List.mem_flatMap, not_exists, not_and]
              intro r' hr'
              rcases List.mem_or_eq_of_mem_set hr' with h' | rfl
              · exact hrr r' h'
              · simp [RV.roots, CV.roots])
            simp only [StepR, hg, OutR, hx, Bool.false_eq_true, if_false, OutR0, hop]
            exact ⟨[], by simp only [opV, e, hri, hown, if_true, e1, e2], by simp⟩
          · cases h
        · cases h
      · cases h
    · cases h
  · cases h
theorem isIo_inv {o : Oper} (h : isIo C o = true) : ∃ c f i, o.op = .call c ∧ c.callee = .value (.func f) ∧ C.io f = some i ∧ C.gv f = false := by
  unfold isIo at h
  split at h
  · rename_i c e1
    split at h
    · rename_i f e2
      simp only [Bool.and_eq_true, Bool.not_eq_true', Option.isSome_iff_exists] at h
      obtain ⟨⟨i, hi⟩, hg⟩ := h
      exact ⟨c, f, i, e1, e2, hi, hg⟩
    · cases h
  · cases h
theorem gt_put_ne {m : Sl} {d s : Nat} {x : SV} (hds : d ≠ s) (hs : s < m.length) : gt (put m (some d) x) s = killSV d (gt m s) := by
  show gt ((m.map (killSV d)).set d (killSV d x)) s = _
  unfold gt
  rw [List.getD_eq_getElem?_getD, List.getElem?_set_ne hds, List.getElem?_map, List.getD_eq_getElem?_getD, List.getElem?_eq_getElem hs]
  rfl
theorem gt_put_eq {m : Sl} {d : Nat} {x : SV} (hd : d < m.length) : gt (put m (some d) x) d = killSV d x := by
  show gt ((m.map (killSV d)).set d (killSV d x)) d = _
  rw [gt_set (by simpa using hd), if_pos rfl]

theorem segK_run {K : Sl → Prop} : ∀ (os : List Oper) (k : Nat) (sl : Sl), segK P C ops tab wr seg c os k sl K → ∃ us sl', Run P C ops tab wr seg c os k sl us sl' ∧ K sl'
  | [], k, sl, h => ⟨[], sl, .nil, h⟩
  | o :: os, k, sl, h => by
    simp only [segK] at h
    split at h
    · rename_i hw
      split at h
      · rename_i hc
        rw [Bool.and_eq_true] at hc
        obtain ⟨x, sl', h1, h2⟩ := stepK_step (boxIo_rd (by have := hc.1; rw [Bool.and_eq_true] at this; exact this.2)) h
        have e : sl' = sl := (step_loc hc.1 h1 fun _ _ => rfl).1
        subst e
        obtain ⟨h3, h4⟩ := putK_put h2
        split at h4
        · rename_i d hd
          rw [hd] at h4
          split at h4
          · rename_i hr
            rw [Bool.and_eq_true, List.all_eq_true] at hr
            obtain ⟨us, sl2, h5, h6⟩ := segK_run os (k + 1) _ h4
            exact ⟨_, _, .st hw hc.1 hc.2 h1 hd h3 hr.1 hr.2 h5, h6⟩
          · exact h4.elim
        · exact h4.elim
      · exact h.elim
    · rename_i s tv hw
      split at h
      · rename_i s' u ha
        split at h
        · rename_i d hd
          obtain ⟨c0, e1, e2, e3⟩ : ∃ c, o.op = .call c ∧ c.callee = .builtin .append ∧ c.args.toList = [.tmp s', .tmp u] := by
            unfold appT at ha
            split at ha
            · rename_i c0 e1
              split at ha
              · rename_i e2 e3
                simp only [Option.some.injEq, Prod.mk.injEq] at ha
                obtain ⟨rfl, rfl⟩ := ha
                exact ⟨c0, e1, e2, e3⟩
              · cases ha
            · cases ha
          have hx : isX C o = true := by unfold isX; rw [e1]; dsimp only; rw [e2]
          have hb : boxIo C o = none := by unfold boxIo; rw [e1]
          split at h
          · rename_i htv
            split at h
            · rename_i hc
              simp only [Bool.and_eq_true, Bool.not_eq_true', Option.isNone_iff_eq_none, beq_iff_eq, List.all_eq_true, beq_eq_false_iff_ne] at hc htv
              obtain ⟨⟨⟨⟨⟨⟨⟨⟨rfl, hg⟩, hown⟩, hu⟩, hus⟩, hdt⟩, hdl⟩, hf⟩, hr⟩ := hc
              subst htv
              have hdl : d < sl.length := Nat.le_of_ble_eq_true hdl
              obtain ⟨x, sl1, h1, h2⟩ := stepK_step hb h
              obtain ⟨h3, h4⟩ := putK_put h2
              have h1 : ∃ t y z cs, c0.argTypes.toList = [t, t] ∧ c0.args.toList = [y, z] ∧ appV C.tb (grabO sl y) t y z = some (cs, x, sl1) ∧ ∀ p ∈ cs, p := by
                simp only [StepR, hg, OutR, hx, if_true, OutX, e1, e2] at h1
                exact h1
              obtain ⟨ty, y, z, cs, g1, g2, g3, g4⟩ := h1
              rw [e3] at g2
              simp only [List.cons.injEq, and_true] at g2
              obtain ⟨rfl, rfl⟩ := g2
              rw [grab_own hown] at g3
              have hrr : ∀ y ∈ sl, ∀ t ∈ [s', u], t ∉ y.roots := fun y hy t ht => by simpa using hr y hy t ht
              obtain ⟨q1, q2⟩ := app_own g3 hown hu hus hrr
              subst q1
              rw [hd] at h4
              by_cases hre : (gt (put (killL sl [s', u]) (some d) x) d).roots.isEmpty = true
              · rw [if_pos hre] at h4
                rw [gt_put_eq (by rw [killL_length]; exact hdl), List.isEmpty_iff] at hre
                obtain ⟨us, sl2, h5, h6⟩ := segK_run os (k + 1) _ h4
                refine ⟨_, _, .gl hw (by simp) hd h3 (by simpa using hdt) hf hrr (fun m hml hm hkm => ?_) hre h5, h6⟩
                simp only [StepR, hg, OutR, hx, if_true, OutX, e1, e2]
                exact ⟨ty, .tmp s', .tmp u, cs, g1, e3, by rw [grab_own (by rw [hm s' (by simp)]; exact hown)]; exact q2 m (hm s' (by simp)) (hm u (by simp)) hkm, g4⟩
              · rw [if_neg hre] at h4; exact h4.elim
            · exact h.elim
          split at h
          · rename_i hc
            simp only [Bool.and_eq_true, Bool.not_eq_true', Option.isNone_iff_eq_none, beq_iff_eq, List.all_eq_true, beq_eq_false_iff_ne] at hc
            obtain ⟨⟨⟨⟨⟨⟨⟨⟨⟨rfl, rfl⟩, hg⟩, hown⟩, hu⟩, hus⟩, hds⟩, hsl⟩, hf⟩, hr⟩ := hc
            obtain ⟨x, sl1, h1, h2⟩ := stepK_step hb h
            obtain ⟨h3, h4⟩ := putK_put h2
            have h1 : ∃ t y z cs, c0.argTypes.toList = [t, t] ∧ c0.args.toList = [y, z] ∧ appV C.tb (grabO sl y) t y z = some (cs, x, sl1) ∧ ∀ p ∈ cs, p := by
              simp only [StepR, hg, OutR, hx, if_true, OutX, e1, e2] at h1
              exact h1
            obtain ⟨ty, y, z, cs, g1, g2, g3, g4⟩ := h1
            rw [e3] at g2
            simp only [List.cons.injEq, and_true] at g2
            obtain ⟨rfl, rfl⟩ := g2
            rw [grab_own hown] at g3
            have hrr : ∀ y ∈ sl, s' ∉ y.roots := fun y hy => by simpa using hr y hy
            obtain ⟨q1, q2, q3⟩ := app_loc g3 hown hu hus hrr hrr rfl fun _ _ => ⟨rfl, fun _ _ => rfl⟩
            rw [q1, hd] at h4
            obtain ⟨us, sl2, h5, h6⟩ := segK_run os (k + 1) _ h4
            exact ⟨_, _, .ap hw ⟨hd, hg, ⟨c0, e1, e2, e3, g1⟩, hx, hb⟩ h3 hown hu hus hds (Nat.le_of_ble_eq_true hsl) hf hrr q3 g4 q2 h5, h6⟩
          · exact h.elim
        · exact h.elim
      split at h
      · rename_i x X hX
        split at h
        · rename_i d hd
          split at h
          · rename_i hc
            simp only [Bool.and_eq_true, Bool.not_eq_true', beq_iff_eq, List.all_eq_true, beq_eq_false_iff_ne] at hc
            obtain ⟨⟨⟨⟨⟨rfl, hds⟩, hsl⟩, hdl⟩, hf⟩, hr⟩ := hc
            have hsl : s < sl.length := Nat.le_of_ble_eq_true hsl
            have hdl : d < sl.length := Nat.le_of_ble_eq_true hdl
            rw [setK_eq] at h
            obtain ⟨h3, h4⟩ := putK_put h
            by_cases hrr : ((gt (put (sl.set s X) (some d) x) s).roots.isEmpty && (gt (put (sl.set s X) (some d) x) d).roots.isEmpty) = true
            · rw [if_pos hrr] at h4
              rw [gt_put_ne hds (by simpa using hsl), gt_set hsl, if_pos rfl, gt_put_eq (by simpa using hdl)] at hrr
              simp only [Bool.and_eq_true, List.isEmpty_iff] at hrr
              obtain ⟨us, sl2, h5, h6⟩ := segK_run os (k + 1) _ h4
              have hroot : ∀ y ∈ sl, s ∉ y.roots := fun y hy => by simpa using hr y hy
              exact ⟨_, _, .gen hw (by simp) hd (fun t ht => by rw [hd]; exact h3 t ht) hds hsl hf (fun y hy => ⟨kB_not (hroot y hy), fun t ht => by
                have e : t = s := by simpa using ht
                rw [e]; exact hroot y hy⟩) (fun m hml hm hkm => takeX_step (by rw [hm s (by simp)]; exact hX) (fun y hy => (hkm y hy).2 s (by simp)) (by rw [hml]; exact hsl)) hrr.2 hrr.1 (fun hn => absurd (List.mem_singleton.2 rfl) hn) h5, h6⟩
            · rw [if_neg hrr] at h4; exact h4.elim
          · exact h.elim
        · exact h.elim
      split at h
      · rename_i hio
        split at h
        · rename_i d hd
          split at h
          · rename_i hc
            simp only [Bool.and_eq_true, Bool.not_eq_true', Option.isNone_iff_eq_none, beq_iff_eq, List.all_eq_true, beq_eq_false_iff_ne, List.isEmpty_iff] at hc
            obtain ⟨⟨⟨⟨⟨⟨⟨hg, rfl⟩, hds⟩, hsl⟩, hdl⟩, hs⟩, hf⟩, hk⟩ := hc
            have hsl : s < sl.length := Nat.le_of_ble_eq_true hsl
            have hdl : d < sl.length := Nat.le_of_ble_eq_true hdl
            obtain ⟨c0, f, i, e1, e2, e3, e4⟩ := isIo_inv hio
            have hb : boxIo C o = none := by unfold boxIo; rw [e1]
            have hx : isX C o = true := by unfold isX; rw [e1]; dsimp only; rw [e2]; dsimp only; rw [e3]; rfl
            obtain ⟨x, sl1, h1, h2⟩ := stepK_step hb h
            obtain ⟨h3, h4⟩ := putK_put h2
            simp only [StepR, hg, OutR, hx, if_true, OutX, e1, e2] at h1
            rcases h1 with ⟨i', q, s0, p, y, x0, zs, xo, as, cs, ws, g0, hr, rfl, rfl⟩ | ⟨_, _, _, _, _, _, hgv, _⟩ | ⟨_, _, _, _, _, _, hio', _⟩ | ⟨_, _, hio', _⟩
            · have hs0 : s0 = s := by
                unfold ioS at hs
                rw [e1] at hs
                dsimp only at hs
                rw [e2] at hs
                dsimp only at hs
                rw [g0] at hs
                dsimp only at hs
                rw [hr.hxo] at hs
                simp only [Option.bind_some, hr.hx0, hr.hio, Option.some.injEq] at hs
                exact hs
              subst hs0
              have keep : ∀ (m : Sl) (bx : Bool), (∀ y ∈ m, kB s0 y = true) → m.map (keepIo bx s0 p) = m := fun m bx hm => map_same fun y hy => kB_io (hm y hy)
              rw [keep sl _ hk, hd] at h4
              by_cases hrr : (ownForm (gt sl s0) == ownForm (gt (put (sl.set s0 (ioPut y (gt sl s0) p ws)) (some d) ((C.sg f).mk cs)) s0) && bxI (gt sl s0) == bxI (gt (put (sl.set s0 (ioPut y (gt sl s0) p ws)) (some d) ((C.sg f).mk cs)) s0) && ((gt (put (sl.set s0 (ioPut y (gt sl s0) p ws)) (some d) ((C.sg f).mk cs)) s0).roots.isEmpty && (gt (put (sl.set s0 (ioPut y (gt sl s0) p ws)) (some d) ((C.sg f).mk cs)) d).roots.isEmpty)) = true
              · rw [if_pos hrr] at h4
                rw [gt_put_ne hds (by simpa using hsl), gt_set hsl, if_pos rfl, gt_put_eq (by simpa using hdl)] at hrr
                simp only [Bool.and_eq_true, List.isEmpty_iff, beq_iff_eq] at hrr
                obtain ⟨us, sl2, h5, h6⟩ := segK_run os (k + 1) _ h4
                exact ⟨_, _, .gen hw (by simp) hd h3 hds hsl hf (fun y hy => ⟨hk y hy, by simp⟩) (fun m hml hm hkm => by
                  simp only [StepR, hg, OutR, hx, if_true, OutX, e1, e2]
                  refine .inl ⟨i', q, s0, p, y, x0, zs, xo, as, cs, ws, g0, io_loc hr (fun z hz t ht => ?_) (hm s0 (by simp)), rfl, ?_⟩
                  · have hzo : z ∈ o.op.operands.toList := by
                      rw [e1]
                      simp only [Op.operands, Call.operands, e2]
                      simpa using .inr (by simpa using hz)
                    have ht' : t ∈ tmpsOf o := List.mem_filterMap.2 ⟨z, hzo, by rw [ht]⟩
                    exact ⟨hm t (by simp [foot, ht']), fun r hr' => hm r (List.mem_append_left _ (List.mem_append_right _ (List.mem_append_right _ (List.mem_flatMap.2 ⟨t, ht', hr'⟩))))⟩
                  · rw [keep m _ fun y hy => (hkm y hy).1, hm s0 (by simp)]) hrr.2.2 hrr.2.1 (fun _ => hrr.1) h5, h6⟩
              · rw [if_neg hrr] at h4; exact h4.elim
            · rw [e4] at hgv; cases hgv
            · rw [e3] at hio'; cases hio'
            · rw [e3] at hio'; cases hio'
          · exact h.elim
        · exact h.elim
      split at h
      · rename_i hld
        split at h
        · rename_i d hd
          split at h
          · rename_i hc
            simp only [Bool.and_eq_true, Bool.not_eq_true', Option.isNone_iff_eq_none, beq_iff_eq, List.all_eq_true, beq_eq_false_iff_ne, List.isEmpty_iff] at hc
            obtain ⟨⟨⟨⟨⟨⟨⟨hg, rfl⟩, hds⟩, hsl⟩, hdl⟩, hs⟩, hf⟩, hk⟩ := hc
            have hsl : s < sl.length := Nat.le_of_ble_eq_true hsl
            have hdl : d < sl.length := Nat.le_of_ble_eq_true hdl
            obtain ⟨ty, a, hop, hx⟩ : ∃ ty a, o.op = .load ty a ∧ isX C o = true := by
              unfold isLd at hld
              split at hld
              · rename_i ty a hop; exact ⟨ty, a, hop, hld⟩
              · cases hld
            have hb : boxIo C o = none := by unfold boxIo; rw [hop]
            obtain ⟨x, sl1, h1, h2⟩ := stepK_step hb h
            obtain ⟨h3, h4⟩ := putK_put h2
            simp only [StepR, hg, OutR, hx, if_true, OutX, hop] at h1
            obtain ⟨p, g1, g2⟩ := h1
            obtain ⟨j, rfl⟩ : ∃ j, p = .ptr s [] j := by
              unfold ldS at hs
              rw [hop] at hs
              dsimp only at hs
              rw [g1] at hs
              split at hs
              · rename_i s' j e
                cases hs
                simp only [Option.some.injEq] at e
                exact ⟨j, e⟩
              · cases hs
            obtain ⟨X, e1, e2⟩ : ∃ X, sl1 = sl.set s X ∧ ∀ m : Sl, (∀ y ∈ m, kB s y = true) → gt m s = gt sl s → loadMv C.tb ty m (.ptr s [] j) = some (x, m.set s X) := by
              have hB : ∀ m : Sl, (∀ y ∈ m, kB s y = true) → m.map (keepB s) = m := fun m hm => map_same fun y hy => kB_B (hm y hy)
              unfold loadMv at g2 ⊢
              simp only at g2 ⊢
              split at g2
              · rename_i cs hcs
                split at g2
                · rename_i hc
                  simp only [Option.map_eq_some_iff, Prod.mk.injEq] at g2
                  obtain ⟨r, q1, rfl, rfl⟩ := g2
                  refine ⟨_, by rw [hB sl hk], fun m hm hms => ?_⟩
                  rw [hms, hcs]
                  simp only
                  rw [if_pos hc, q1, hB m hm]
                  rfl
                · cases g2
              · cases g2
            subst e1
            rw [hd] at h4
            by_cases hrr : (ownForm (gt sl s) == ownForm (gt (put (sl.set s X) (some d) x) s) && bxI (gt sl s) == bxI (gt (put (sl.set s X) (some d) x) s) && ((gt (put (sl.set s X) (some d) x) s).roots.isEmpty && (gt (put (sl.set s X) (some d) x) d).roots.isEmpty)) = true
            · rw [if_pos hrr] at h4
              rw [gt_put_ne hds (by simpa using hsl), gt_set hsl, if_pos rfl, gt_put_eq (by simpa using hdl)] at hrr
              simp only [Bool.and_eq_true, List.isEmpty_iff, beq_iff_eq] at hrr
              obtain ⟨us, sl2, h5, h6⟩ := segK_run os (k + 1) _ h4
              refine ⟨_, _, .gen hw (by simp) hd h3 hds hsl hf (fun y hy => ⟨hk y hy, by simp⟩) (fun m hml hm hkm => ?_) hrr.2.2 hrr.2.1 (fun _ => hrr.1) h5, h6⟩
              simp only [StepR, hg, OutR, hx, if_true, OutX, hop]
              refine ⟨.ptr s [] j, ?_, e2 m (fun y hy => (hkm y hy).1) (hm s (by simp))⟩
              rw [← g1]
              refine opView_loc (fun t ht => ?_) _
              have ht' : t ∈ tmpsOf o := List.mem_filterMap.2 ⟨a, by rw [hop]; simp [Op.operands], by rw [ht]⟩
              exact ⟨hm t (by simp [foot, ht']), fun r hr' => hm r (List.mem_append_left _ (List.mem_append_right _ (List.mem_append_right _ (List.mem_flatMap.2 ⟨t, ht', hr'⟩))))⟩
            · rw [if_neg hrr] at h4; exact h4.elim
          · exact h.elim
        · exact h.elim
      split at h
      · rename_i ts hbt
        split at h
        · rename_i d hd
          split at h
          · rename_i hc
            simp only [Bool.and_eq_true, Bool.not_eq_true', Option.isNone_iff_eq_none, beq_iff_eq, List.all_eq_true] at hc
            obtain ⟨⟨⟨⟨⟨⟨⟨hg, hx⟩, rfl⟩, hs⟩, hdt⟩, hdl⟩, hf⟩, hr⟩ := hc
            have hdl : d < sl.length := Nat.le_of_ble_eq_true hdl
            obtain ⟨x, sl1, h1, h2⟩ := stepK_step (boxIo_isX hx) h
            obtain ⟨h3, h4⟩ := putK_put h2
            have hrr : ∀ y ∈ sl, ∀ t ∈ ts, t ∉ y.roots := fun y hy t ht => by simpa using hr y hy t ht
            have bld : ∀ (m : Sl) (z : SV) (m1 : Sl), StepR P C ops o m z m1 ↔ ∃ cs, opV C.tb m o.type o.op = some (cs, z, m1) ∧ ∀ p ∈ cs, p := fun m z m1 => by
              unfold bldT at hbt
              split at hbt
              · rename_i hop
                simp only [StepR, hg, OutR, hx, Bool.false_eq_true, if_false, OutR0, hop]
              · rename_i hop
                simp only [StepR, hg, OutR, hx, Bool.false_eq_true, if_false, OutR0, hop]
              · cases hbt
            obtain ⟨cs, g1, g2⟩ := (bld _ _ _).1 h1
            obtain ⟨e1, -⟩ := bld_own (sl2 := sl) hbt g1 (fun _ _ _ _ => ⟨rfl, fun _ _ => rfl⟩) hrr hrr
            subst e1
            rw [hd] at h4
            by_cases hre : (gt (put (killL sl ts) (some d) x) d).roots.isEmpty = true
            · rw [if_pos hre] at h4
              rw [gt_put_eq (by rw [killL_length]; exact hdl), List.isEmpty_iff] at hre
              obtain ⟨us, sl2, h5, h6⟩ := segK_run os (k + 1) _ h4
              refine ⟨_, _, .gl hw (by simpa using hs) hd h3 (by simpa using hdt) hf hrr (fun m hml hm hkm => (bld _ _ _).2 ⟨cs, (bld_own hbt g1 (fun y hy t ht => ?_) hrr hkm).2, g2⟩) hre h5, h6⟩
              have ht' : t ∈ tmpsOf o := List.mem_filterMap.2 ⟨y, by simpa using hy, by rw [ht]⟩
              exact ⟨hm t (by simp [foot, ht']), fun r hr' => hm r (List.mem_append_left _ (List.mem_append_right _ (List.mem_append_right _ (List.mem_flatMap.2 ⟨t, ht', hr'⟩))))⟩
            · rw [if_neg hre] at h4; exact h4.elim
          · exact h.elim
        · exact h.elim
      split at h
      · rename_i hc
        simp only [Bool.and_eq_true, Bool.not_eq_true', Option.isNone_iff_eq_none, beq_iff_eq, List.all_eq_true] at hc
        obtain ⟨⟨⟨⟨⟨⟨hx, hd⟩, hg⟩, hT⟩, hs⟩, hf⟩, hk⟩ := hc
        obtain ⟨x, sl1, h1, h2⟩ := stepK_step (boxIo_isX hx) h
        obtain ⟨h3, h4⟩ := putK_put h2
        rw [hd] at h4
        have h4 : if (ownForm (gt sl s) == ownForm (gt sl1 s) && bxI (gt sl s) == bxI (gt sl1 s) && (gt sl1 s).roots.isEmpty && (!(tv == [deepM]) || boxForm (gt sl s) == boxForm (gt sl1 s) && (gt sl s).roots.isEmpty)) = true then segK P C ops tab wr seg c os (k + 1) sl1 K else False := h4
        obtain ⟨t, a, y, hop⟩ := storeT_op hT
        have h1' : ∃ cs, opV C.tb sl o.type o.op = some (cs, x, sl1) ∧ ∀ p ∈ cs, p := by
          simp only [StepR, hg, OutR, hx, Bool.false_eq_true, if_false, OutR0, hop] at h1
          rw [hop]; exact h1
        obtain ⟨cs, g1, g2⟩ := h1'
        by_cases hr : (ownForm (gt sl s) == ownForm (gt sl1 s) && bxI (gt sl s) == bxI (gt sl1 s) && (gt sl1 s).roots.isEmpty && (!(tv == [deepM]) || boxForm (gt sl s) == boxForm (gt sl1 s) && (gt sl s).roots.isEmpty)) = true
        · rw [if_pos hr] at h4
          simp only [Bool.and_eq_true, beq_iff_eq, List.isEmpty_iff, Bool.or_eq_true, Bool.not_eq_true', beq_eq_false_iff_ne, ne_eq] at hr
          obtain ⟨us, sl2, h5, h6⟩ := segK_run os (k + 1) _ h4
          exact ⟨_, _, .wr hw hx hd hg hT (by simpa using hs) hf (fun y hy => ⟨(hk y hy).1, by simpa using (hk y hy).2⟩) g1 g2 hr.1.1 ⟨hr.1.2, fun e => hr.2.resolve_left fun hn => hn e⟩ h5, h6⟩
        · rw [if_neg hr] at h4; exact h4.elim
      · exact h.elim

/-- Slot t, when the operations of L have run. -/
def mrgT {α : Type} (L : Nat → Bool) (t : Nat) : List (List (Nat × α)) → Nat → α → α
  | [], _, y => y
  | u :: r, j, y => mrgT L t r (j + 1) (if L j then (u.lookup t).getD y else y)
def mrg (L : Nat → Bool) (sl0 : Sl) (us : List Ups) (c : Nat) : Sl := (List.range sl0.length).map fun t => mrgT L t us c (gt sl0 t)

theorem mrg_len {L : Nat → Bool} {sl0 : Sl} {us : List Ups} {c : Nat} : (mrg L sl0 us c).length = sl0.length := by simp [mrg]
theorem gt_mrg {L : Nat → Bool} {sl0 : Sl} {us : List Ups} {c t : Nat} : gt (mrg L sl0 us c) t = if t < sl0.length then mrgT L t us c (gt sl0 t) else .dead := by
  unfold gt mrg
  by_cases h : t < sl0.length
  · simp [h, gt]
  · simp [h]
theorem mrgT_congr {α : Type} {L L' : Nat → Bool} {t : Nat} : ∀ (us : List (List (Nat × α))) (c : Nat) (y : α), (∀ (i : Nat) (u : List (Nat × α)), us[i]? = some u → (u.lookup t).isSome = true → L (c + i) = L' (c + i)) → mrgT L t us c y = mrgT L' t us c y
  | [], _, _, _ => rfl
  | u :: r, c, y, h => by
    have e : ∀ y, mrgT L t r (c + 1) y = mrgT L' t r (c + 1) y := fun y => mrgT_congr r (c + 1) y fun i u' hi hd => by
      have := h (i + 1) u' (by simpa using hi) hd
      rwa [show c + (i + 1) = c + 1 + i by omega] at this
    simp only [mrgT, e]
    cases hl : u.lookup t with
    | none => simp
    | some x =>
      have := h 0 u rfl (by rw [hl]; rfl)
      rw [Nat.add_zero] at this
      rw [this]
theorem mrgT_none {α : Type} {L : Nat → Bool} {t : Nat} : ∀ (us : List (List (Nat × α))) (c : Nat) (y : α), (∀ (i : Nat) (u : List (Nat × α)), us[i]? = some u → (u.lookup t).isSome = true → L (c + i) = false) → mrgT L t us c y = y
  | [], _, _, _ => rfl
  | u :: r, c, y, h => by
    have e : ∀ y, mrgT L t r (c + 1) y = y := fun y => mrgT_none r (c + 1) y fun i u' hi hd => by
      have := h (i + 1) u' (by simpa using hi) hd
      rwa [show c + (i + 1) = c + 1 + i by omega] at this
    simp only [mrgT, e]
    cases hl : u.lookup t with
    | none => simp
    | some x =>
      have := h 0 u rfl (by rw [hl]; rfl)
      rw [Nat.add_zero] at this
      simp [this]
/-- The last one that sets t, when it has run. -/
theorem mrgT_some {α : Type} {L : Nat → Bool} {t : Nat} {x : α} : ∀ (us : List (List (Nat × α))) (c i : Nat) (y : α) (u : List (Nat × α)), us[i]? = some u → u.lookup t = some x → L (c + i) = true →
    (∀ i' u', us[i']? = some u' → (u'.lookup t).isSome = true → i < i' → L (c + i') = false) → mrgT L t us c y = x
  | [], _, i, _, _, h, _, _, _ => by simp at h
  | u0 :: r, c, 0, y, u, h, hd, hl, hu => by
    simp only [List.getElem?_cons_zero, Option.some.injEq] at h
    subst h
    rw [Nat.add_zero] at hl
    simp only [mrgT, hl, hd, if_true, Option.getD_some]
    exact mrgT_none r (c + 1) x fun i u' hi hs => by
      have := hu (i + 1) u' (by simpa using hi) hs (by omega)
      rwa [show c + (i + 1) = c + 1 + i by omega] at this
  | u0 :: r, c, i + 1, y, u, h, hd, hl, hu => by
    simp only [mrgT]
    refine mrgT_some r (c + 1) i _ u (by simpa using h) hd (by rw [show c + 1 + i = c + (i + 1) by omega]; exact hl) fun i' u' h' hs hlt => ?_
    have := hu (i' + 1) u' (by simpa using h') hs (by omega)
    rwa [show c + (i' + 1) = c + 1 + i' by omega] at this
theorem mrgT_cases {α : Type} {L : Nat → Bool} {t : Nat} : ∀ (us : List (List (Nat × α))) (c : Nat) (y : α), mrgT L t us c y = y ∨ ∃ i u x, us[i]? = some u ∧ u.lookup t = some x ∧ L (c + i) = true ∧ mrgT L t us c y = x
  | [], _, _ => .inl rfl
  | u :: r, c, y => by
    simp only [mrgT]
    rcases mrgT_cases (L := L) (t := t) r (c + 1) (if L c then (u.lookup t).getD y else y) with h' | ⟨i, u', x', h1, h2, h3, h4⟩
    · rw [h']
      by_cases hL : L c = true
      · rw [if_pos hL]
        cases hl : u.lookup t with
        | none => exact .inl rfl
        | some x => exact .inr ⟨0, u, x, rfl, hl, hL, rfl⟩
      · rw [if_neg hL]; exact .inl rfl
    · exact .inr ⟨i + 1, u', x', by simpa using h1, h2, by rw [show c + (i + 1) = c + 1 + i by omega]; exact h3, h4⟩

theorem lookOk_spec {k t : Nat} : ∀ (os : List Oper) (c i : Nat) (o : Oper), lookOk tab wr k t os c = true → os[i]? = some o → t ∈ tgts wr (c + i) o →
    c + i = k ∨ (c + i < k ∧ (tab.getD k 0).testBit (c + i) = true) ∨ (k < c + i ∧ (tab.getD (c + i) 0).testBit k = true)
  | [], _, i, o, _, h, _ => by simp at h
  | o0 :: os, c, 0, o, hl, h, hd => by
    simp only [List.getElem?_cons_zero, Option.some.injEq] at h
    subst h
    rw [Nat.add_zero] at hd
    have hd : (tgts wr c o0).contains t = true := by simpa using hd
    simp only [lookOk, hd, Bool.not_true, Bool.false_or, Bool.and_eq_true, Bool.or_eq_true, beq_iff_eq] at hl
    rcases hl.1 with (h | h) | h
    · exact .inl h
    · exact .inr (.inl ⟨Nat.le_of_ble_eq_true h.1, h.2⟩)
    · exact .inr (.inr ⟨Nat.le_of_ble_eq_true h.1, h.2⟩)
  | o0 :: os, c, i + 1, o, hl, h, hd => by
    simp only [lookOk, Bool.and_eq_true] at hl
    rw [show c + (i + 1) = c + 1 + i by omega] at hd ⊢
    exact lookOk_spec os (c + 1) i o hl.2 (by simpa using h) hd
theorem hangOk_spec {k t : Nat} : ∀ (os : List Oper) (c i : Nat) (o : Oper), hangOk tab wr k t os c = true → os[i]? = some o → t ∈ kills wr (c + i) o → c + i < k ∧ (tab.getD k 0).testBit (c + i) = true
  | [], _, i, o, _, h, _ => by simp at h
  | o0 :: os, c, 0, o, hl, h, hd => by
    simp only [List.getElem?_cons_zero, Option.some.injEq] at h
    subst h
    rw [Nat.add_zero] at hd
    have hd : (kills wr c o0).contains t = true := by simpa using hd
    simp only [hangOk, hd, Bool.not_true, Bool.false_or, Bool.and_eq_true] at hl
    exact ⟨Nat.le_of_ble_eq_true hl.1.1, hl.1.2⟩
  | o0 :: os, c, i + 1, o, hl, h, hd => by
    simp only [hangOk, Bool.and_eq_true] at hl
    rw [show c + (i + 1) = c + 1 + i by omega] at hd ⊢
    exact hangOk_spec os (c + 1) i o hl.2 (by simpa using h) hd
theorem ordB_spec {k t : Nat} {ts : List Nat} : ∀ (os : List Oper) (c i : Nat) (o : Oper), ordB tab wr k ts os c = true → os[i]? = some o → t ∈ tgts wr (c + i) o → t ∈ ts → c + i < k → (tab.getD k 0).testBit (c + i) = true
  | [], _, i, o, _, h, _, _, _ => by simp at h
  | o0 :: os, c, 0, o, hl, h, hd, ht, hlt => by
    simp only [List.getElem?_cons_zero, Option.some.injEq] at h
    subst h
    rw [Nat.add_zero] at hd hlt ⊢
    simp only [ordB, Bool.and_eq_true, Bool.or_eq_true] at hl
    rcases hl.1 with (h | h) | h
    · have := Nat.le_of_ble_eq_true h; omega
    · have : ((tgts wr c o0).any ts.contains) = true := List.any_eq_true.2 ⟨t, hd, by simpa using ht⟩
      rw [this] at h; cases h
    · exact h
  | o0 :: os, c, i + 1, o, hl, h, hd, ht, hlt => by
    simp only [ordB, Bool.and_eq_true] at hl
    rw [show c + (i + 1) = c + 1 + i by omega] at hd hlt ⊢
    exact ordB_spec os (c + 1) i o hl.2 (by simpa using h) hd ht hlt
theorem ordAll_spec {t : Nat} {seg : List Oper} {c0 : Nat} : ∀ (os : List Oper) (c i : Nat) (o : Oper) (j : Nat) (o' : Oper), ordAll tab wr seg c0 os c = true → os[i]? = some o → seg[j]? = some o' →
    t ∈ tgts wr (c + i) o → t ∈ tgts wr (c0 + j) o' → c0 + j < c + i → (tab.getD (c + i) 0).testBit (c0 + j) = true
  | [], _, i, o, _, _, _, h, _, _, _, _ => by simp at h
  | o0 :: os, c, 0, o, j, o', hl, h, hj, hd, hd', hlt => by
    simp only [List.getElem?_cons_zero, Option.some.injEq] at h
    subst h
    rw [Nat.add_zero] at hd hlt ⊢
    simp only [ordAll, Bool.and_eq_true] at hl
    exact ordB_spec seg c0 j o' hl.1 hj hd' hd hlt
  | o0 :: os, c, i + 1, o, j, o', hl, h, hj, hd, hd', hlt => by
    simp only [ordAll, Bool.and_eq_true] at hl
    rw [show c + (i + 1) = c + 1 + i by omega] at hd hlt ⊢
    exact ordAll_spec os (c + 1) i o j o' hl.2 (by simpa using h) hj hd hd' hlt
theorem killsOf_spec {t : Nat} : ∀ (os : List Oper) (c i : Nat) (o : Oper), os[i]? = some o → t ∈ kills wr (c + i) o → t ∈ killsOf wr os c
  | [], _, i, o, h, _ => by simp at h
  | o0 :: os, c, 0, o, h, hd => by
    simp only [List.getElem?_cons_zero, Option.some.injEq] at h
    subst h
    exact List.mem_append_left _ hd
  | o0 :: os, c, i + 1, o, h, hd => by
    rw [show c + (i + 1) = c + 1 + i by omega] at hd
    exact List.mem_append_right _ (killsOf_spec os (c + 1) i o (by simpa using h) hd)

theorem rooted_spec {d : Nat} : ∀ sl : Sl, rooted sl d = false → ∀ x ∈ sl, d ∉ x.roots
  | [], _, x, hx => by cases hx
  | y :: ys, h, x, hx => by
    simp only [rooted] at h
    by_cases hy : y.roots.contains d = true
    · rw [if_pos hy] at h; cases h
    · rw [if_neg hy] at h
      rcases List.mem_cons.1 hx with rfl | hx
      · simpa using hy
      · exact rooted_spec ys h x hx
theorem kBk_kB {tv : List Nat} {s : Nat} {y : SV} (ht : ∀ t ∈ tv, t = s) (h : kBk tv s y = true) : kB s y = true := by
  unfold kBk at h
  split at h
  · rename_i e
    simp only [Bool.and_eq_true, beq_iff_eq, Bool.not_eq_true', beq_eq_false_iff_ne] at e
    exact absurd (ht deepM (by rw [e.1]; simp)).symm e.2
  · exact h
theorem lookup_mem {k s : Nat} {tv : List Nat} : ∀ {l : List (Nat × Nat × List Nat)}, l.lookup k = some (s, tv) → (k, s, tv) ∈ l := by
  intro l
  induction l with
  | nil => intro h; cases h
  | cons a l ih =>
    obtain ⟨a1, a2⟩ := a
    intro h
    simp only [List.lookup_cons] at h
    split at h
    · rename_i e
      have e : k = a1 := by simpa using e
      cases h
      subst e
      exact List.mem_cons_self ..
    · exact List.mem_cons_of_mem _ (ih h)
theorem kBs_at {y : SV} {k s : Nat} {tv : List Nat} (h : kBs wr y = true) (hw : wr.lookup k = some (s, tv)) : kBk tv s y = true := List.all_eq_true.1 h _ (lookup_mem hw)
theorem kBs_nil {y : SV} (h : y.roots = []) : kBs wr y = true := by
  unfold kBs
  rw [List.all_eq_true]
  intro w _
  unfold kBk
  split <;> simp [kB, kBd, h]
theorem lookup_dead {q : Nat} : ∀ tv : List Nat, (tv.map fun t => (t, SV.dead)).lookup q = if q ∈ tv then some .dead else none
  | [] => rfl
  | t :: ts => by
    simp only [List.map_cons, List.lookup_cons, lookup_dead ts, List.mem_cons]
    by_cases e : q = t
    · subst e; simp
    · have : (q == t) = false := by simpa using e
      rw [this]; simp [e]
theorem lookup_wr {s q : Nat} {x : SV} {tv : List Nat} : ((s, x) :: tv.map fun t => (t, SV.dead)).lookup q = if q = s then some x else if q ∈ tv then some .dead else none := by
  simp only [List.lookup_cons, lookup_dead]
  by_cases e : q = s
  · subst e; simp
  · have : (q == s) = false := by simpa using e
    rw [this]; simp [e]

/-- What all operations of a segment are known to do, by the text's own run. -/
structure Seg (tab : List Nat) (wr : List (Nat × Nat × List Nat)) (seg : List Oper) (c : Nat) (sl0 : Sl) (us : List Ups) : Prop where
  len : us.length = seg.length
  tg : ∀ (i : Nat) (u : Ups) (o : Oper) (t : Nat), us[i]? = some u → seg[i]? = some o → (u.lookup t).isSome = true → t ∈ tgts wr (c + i) o
  ord : ∀ (i : Nat) (o : Oper) (j : Nat) (o' : Oper) (t : Nat), seg[i]? = some o → seg[j]? = some o' → t ∈ tgts wr (c + i) o → t ∈ tgts wr (c + j) o' → j < i → (tab.getD (c + i) 0).testBit (c + j) = true
  clear : ∀ (i : Nat) (o : Oper), seg[i]? = some o → ∀ t ∈ kills wr (c + i) o, ∀ x ∈ sl0, t ∉ x.roots
  hang : ∀ (i : Nat) (u : Ups) (x : SV) (t : Nat), us[i]? = some u → u.lookup t = some x → t < sl0.length → ∀ r ∈ x.roots, hangOk tab wr (c + i) r seg c = true
  kb0 : ∀ x ∈ sl0, kBs wr x = true
  kbu : ∀ (i : Nat) (u : Ups) (x : SV) (t : Nat), us[i]? = some u → u.lookup t = some x → t < sl0.length → kBs wr x = true

section
variable {sl0 : Sl} {us : List Ups}

theorem Seg.at (h : Seg tab wr seg c sl0 us) {i : Nat} {u : Ups} (hi : us[i]? = some u) : ∃ o, seg[i]? = some o := by
  have := (List.getElem?_eq_some_iff.1 hi).1
  rw [h.len] at this
  exact ⟨_, List.getElem?_eq_getElem this⟩

/-- What stands in a merged state doesn't hang on what has yet to be set. -/
theorem Seg.clean (h : Seg tab wr seg c sl0 us) {L : Nat → Bool} (hcl : ∀ j, L j = true → ∀ b, (tab.getD j 0).testBit b = true → L b = true) {i : Nat} {o : Oper}
    (ho : seg[i]? = some o) (hL : L (c + i) = false) : ∀ y ∈ mrg L sl0 us c, kBs wr y = true ∧ ∀ t ∈ kills wr (c + i) o, t ∉ y.roots := by
  intro y hy
  obtain ⟨q, hq, rfl⟩ := List.mem_map.1 hy
  have hq' : q < sl0.length := by simpa using hq
  rcases mrgT_cases (L := L) (t := q) us c (gt sl0 q) with e | ⟨j, u, x, g1, g2, g3, g4⟩
  · rw [e]
    exact ⟨h.kb0 _ (gt_mem hq'), fun t ht hr => h.clear i o ho t ht _ (gt_mem hq') hr⟩
  · rw [g4]
    refine ⟨h.kbu j u x q g1 g2 hq', fun t ht hr => ?_⟩
    obtain ⟨h1, h2⟩ := hangOk_spec seg c i o (h.hang j u x q g1 g2 hq' t hr) ho ht
    have := hcl _ g3 _ h2
    rw [hL] at this; cases this

/-- One more operation has run. -/
theorem Seg.next (h : Seg tab wr seg c sl0 us) {L : Nat → Bool} (hcl : ∀ j, L j = true → ∀ b, (tab.getD j 0).testBit b = true → L b = true) {i : Nat} {u : Ups}
    (hi : us[i]? = some u) (hL : L (c + i) = false) {sl' : Sl} (hl : sl'.length = sl0.length) (hg : ∀ q, q < sl0.length → gt sl' q = (u.lookup q).getD (gt (mrg L sl0 us c) q)) : sl' = mrg (upd L (c + i)) sl0 us c := by
  refine List.ext_getElem (by rw [hl, mrg_len]) fun t h1 h2 => ?_
  have ht : t < sl0.length := by omega
  have e : sl'[t] = gt sl' t := by simp [gt, h1]
  rw [e, hg t ht]
  simp only [mrg, List.getElem_map, List.getElem_range]
  have e2 : gt (List.map (fun t => mrgT L t us c (gt sl0 t)) (List.range sl0.length)) t = mrgT L t us c (gt sl0 t) := by
    have := gt_mrg (L := L) (sl0 := sl0) (us := us) (c := c) (t := t)
    rw [if_pos ht] at this
    exact this
  rw [e2]
  obtain ⟨o, ho⟩ := h.at hi
  cases hlk : u.lookup t with
  | some x =>
    refine (mrgT_some us c i _ u hi hlk (by simp [upd]) fun i' u' h' hs hlt => ?_).symm
    obtain ⟨o', ho'⟩ := h.at h'
    have b := h.ord i' o' i o t ho' ho (h.tg i' u' o' t h' ho' hs) (h.tg i u o t hi ho (by rw [hlk]; rfl)) hlt
    simp only [upd]
    rw [if_neg (by omega)]
    cases hL' : L (c + i') with
    | false => rfl
    | true => have := hcl _ hL' _ b; rw [hL] at this; cases this
  | none =>
    refine mrgT_congr us c _ fun i' u' h' hs => ?_
    have : i' ≠ i := fun e => by
      subst e
      rw [hi] at h'
      cases h'
      rw [hlk] at hs; cases hs
    simp only [upd]
    rw [if_neg (by omega)]

theorem gt_mem_of {m : Sl} {q : Nat} (h : q < m.length) {p : SV → Prop} (hp : ∀ y ∈ m, p y) : p (gt m q) := hp _ (gt_mem h)

/-- A reading operation has run. -/
theorem Seg.put (h : Seg tab wr seg c sl0 us) {L : Nat → Bool} (hcl : ∀ j, L j = true → ∀ b, (tab.getD j 0).testBit b = true → L b = true) {i d : Nat} {o : Oper} {x : SV}
    (hi : us[i]? = some [(d, killSV d x)]) (ho : seg[i]? = some o) (hd : o.dst = some d) (hL : L (c + i) = false) : DL.put (mrg L sl0 us c) (some d) x = mrg (upd L (c + i)) sl0 us c := by
  refine h.next hcl hi hL (by simp [DL.put, putT, mrg_len]) fun q hq => ?_
  have hq' : q < (mrg L sl0 us c).length := by rw [mrg_len]; exact hq
  have cl := h.clean hcl ho hL
  have hdk : d ∈ kills wr (c + i) o := by simp [kills, hd]
  have e : (mrg L sl0 us c).map (killSV d) = mrg L sl0 us c := map_same fun y hy => kill_id ((cl y hy).2 d hdk)
  show gt (((mrg L sl0 us c).map (killSV d)).set d (killSV d x)) q = _
  rw [e]
  by_cases hdl : d < (mrg L sl0 us c).length
  · rw [gt_set hdl]
    simp only [List.lookup_cons, List.lookup_nil]
    by_cases e : q = d
    · subst e; simp
    · have : (q == d) = false := by simpa using e
      simp [this, e]
  · rw [List.set_eq_of_length_le (by omega)]
    have : (q == d) = false := by simp; omega
    simp [List.lookup_cons, this]

/-- An 'append' has run. -/
theorem Seg.app (h : Seg tab wr seg c sl0 us) {L : Nat → Bool} (hcl : ∀ j, L j = true → ∀ b, (tab.getD j 0).testBit b = true → L b = true) {i d s : Nat} {o : Oper} {x : SV}
    (hi : us[i]? = some [(d, x), (s, SV.dead)]) (ho : seg[i]? = some o) (hw : wr.lookup (c + i) = some (s, [s])) (hd : o.dst = some d) (hds : d ≠ s) (hx : x.roots = []) (hL : L (c + i) = false) (hs : s < sl0.length) :
    DL.put ((mrg L sl0 us c).set s .dead) (some d) x = mrg (upd L (c + i)) sl0 us c := by
  refine h.next hcl hi hL (by simp [DL.put, putT, mrg_len]) fun q hq => ?_
  have cl := h.clean hcl ho hL
  have hdk : d ∈ kills wr (c + i) o := by simp [kills, hd]
  have e : ((mrg L sl0 us c).set s SV.dead).map (killSV d) = (mrg L sl0 us c).set s .dead := map_same fun y hy => by
    rcases List.mem_or_eq_of_mem_set hy with hy | rfl
    · exact kill_id ((cl y hy).2 d hdk)
    · unfold killSV; split <;> rfl
  have ex : killSV d x = x := kill_id (by rw [hx]; simp)
  show gt ((((mrg L sl0 us c).set s .dead).map (killSV d)).set d (killSV d x)) q = _
  rw [e, ex]
  simp only [List.lookup_cons, List.lookup_nil]
  by_cases e1 : q = d
  · subst e1
    rw [gt_set (by rw [List.length_set, mrg_len]; exact hq)]
    simp
  · have b1 : (q == d) = false := by simpa using e1
    have : gt (((mrg L sl0 us c).set s .dead).set d x) q = gt ((mrg L sl0 us c).set s .dead) q := gt_set_ne e1
    rw [this, b1]
    by_cases e2 : q = s
    · subst e2
      rw [gt_set (by rw [mrg_len]; exact hq)]
      simp
    · have b2 : (q == s) = false := by simpa using e2
      rw [gt_set_ne e2, b2]
      rfl

/-- An operation has run that sets two slots. -/
theorem Seg.gen (h : Seg tab wr seg c sl0 us) {L : Nat → Bool} (hcl : ∀ j, L j = true → ∀ b, (tab.getD j 0).testBit b = true → L b = true) {i d s : Nat} {o : Oper} {x X : SV}
    (hi : us[i]? = some [(d, killSV d x), (s, killSV d X)]) (ho : seg[i]? = some o) (hd : o.dst = some d) (hds : d ≠ s) (hL : L (c + i) = false) :
    DL.put ((mrg L sl0 us c).set s X) (some d) x = mrg (upd L (c + i)) sl0 us c := by
  refine h.next hcl hi hL (by simp [DL.put, putT, mrg_len]) fun q hq => ?_
  have cl := h.clean hcl ho hL
  have hdk : d ∈ kills wr (c + i) o := by simp [kills, hd]
  have e : ((mrg L sl0 us c).set s X).map (killSV d) = (mrg L sl0 us c).set s (killSV d X) := by
    rw [List.map_set, map_same fun y hy => kill_id ((cl y hy).2 d hdk)]
  show gt ((((mrg L sl0 us c).set s X).map (killSV d)).set d (killSV d x)) q = _
  rw [e]
  simp only [List.lookup_cons, List.lookup_nil]
  by_cases e1 : q = d
  · subst e1
    rw [gt_set (by rw [List.length_set, mrg_len]; exact hq)]
    simp
  · have b1 : (q == d) = false := by simpa using e1
    have : gt (((mrg L sl0 us c).set s (killSV d X)).set d (killSV d x)) q = gt ((mrg L sl0 us c).set s (killSV d X)) q := gt_set_ne e1
    rw [this, b1]
    by_cases e2 : q = s
    · subst e2
      rw [gt_set (by rw [mrg_len]; exact hq)]
      simp
    · have b2 : (q == s) = false := by simpa using e2
      rw [gt_set_ne e2, b2]
      rfl

/-- A struct or a row has been put together of what slots owned. -/
theorem Seg.gl (h : Seg tab wr seg c sl0 us) {L : Nat → Bool} (hcl : ∀ j, L j = true → ∀ b, (tab.getD j 0).testBit b = true → L b = true) {i d : Nat} {tv : List Nat} {o : Oper} {x : SV}
    (hi : us[i]? = some ((d, killSV d x) :: tv.map fun t => (t, SV.dead))) (ho : seg[i]? = some o) (hd : o.dst = some d) (hdt : d ∉ tv) (hL : L (c + i) = false) :
    DL.put (killL (mrg L sl0 us c) tv) (some d) x = mrg (upd L (c + i)) sl0 us c := by
  refine h.next hcl hi hL (by simp [DL.put, putT, mrg_len, killL_length]) fun q hq => ?_
  have cl := h.clean hcl ho hL
  have hdk : d ∈ kills wr (c + i) o := by simp [kills, hd]
  have e : (killL (mrg L sl0 us c) tv).map (killSV d) = killL (mrg L sl0 us c) tv := map_same fun y hy => by
    rcases mem_killL tv _ y hy with hy | rfl
    · exact kill_id ((cl y hy).2 d hdk)
    · unfold killSV; split <;> rfl
  show gt (((killL (mrg L sl0 us c) tv).map (killSV d)).set d (killSV d x)) q = _
  rw [e, lookup_wr]
  by_cases e1 : q = d
  · subst e1
    rw [gt_set (by rw [killL_length, mrg_len]; exact hq)]
    simp
  · rw [gt_set_ne e1, gt_killL, if_neg e1]
    by_cases e2 : q ∈ tv <;> simp [e2]

/-- A store has run. -/
theorem Seg.store (h : Seg tab wr seg c sl0 us) {L : Nat → Bool} (hcl : ∀ j, L j = true → ∀ b, (tab.getD j 0).testBit b = true → L b = true) {i s : Nat} {tv : List Nat} {o : Oper} {sl sl1 : Sl} {cs : List Prop} {x : SV}
    (hi : us[i]? = some ((s, gt sl1 s) :: tv.map fun t => (t, SV.dead))) (ho : seg[i]? = some o) (hw : wr.lookup (c + i) = some (s, tv)) (hL : L (c + i) = false)
    (hT : storeT C.tb sl o.type o.op = some (s, tv)) (hop : opV C.tb sl o.type o.op = some (cs, x, sl1)) (hstv : s ∉ tv) (hk : ∀ y ∈ sl, kBk tv s y = true ∧ ∀ t ∈ tv, t ∉ y.roots)
    (hl : sl.length = sl0.length) (hok : ∀ y ∈ o.op.operands, OkOp sl (mrg L sl0 us c) y) (hss : gt (mrg L sl0 us c) s = gt sl s) :
    opV C.tb (mrg L sl0 us c) o.type o.op = some (cs, .und, mrg (upd L (c + i)) sl0 us c) := by
  have cl := h.clean hcl ho hL
  have hkt : ∀ t ∈ tv, t ∈ kills wr (c + i) o := fun t ht => by simp [kills, wrK, hw, ht]
  obtain ⟨-, -, sl2', h1, h2, h3⟩ := store_eff hT hop hstv hk (by rw [mrg_len, hl]) hok hss fun y hy => ⟨kBs_at (cl y hy).1 hw, fun t ht => (cl y hy).2 t (hkt t ht)⟩
  have e := h.next hcl hi hL (h2.trans mrg_len) fun q hq => by
    rw [h3 q (by rw [mrg_len]; exact hq), lookup_wr]
    by_cases e : q = s
    · simp [e]
    · by_cases e2 : q ∈ tv
      · simp [e, e2]
      · simp [e, e2]
  rw [← e]
  exact h1
end
end
end Go.Proofs.Ytlffmhhdgedddaa.DL
