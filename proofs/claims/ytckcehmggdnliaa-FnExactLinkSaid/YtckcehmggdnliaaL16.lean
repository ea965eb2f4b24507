/- The data level, part 16: an operation, with calls. -/
import Derived.Test.YtckcehmggdnliaaL15
namespace Go.Proofs.Ytckcehmggdnliaa.DL
open Go Go.RowKit

/-- What an operation whose guard is met brings: x into its slot, sl' the slots then. -/
def OutR0 (P : Program) (C : Cfg) (sl : Sl) (o : Oper) (x : SV) (sl' : Sl) : Prop :=
  match o.op with
  | .pick c a b => ∃ t u, opView C.tb o.type sl c = some (.one (.cell (.sc (.bool t)))) ∧ opView C.tb o.type sl (if t then a else b) = some (.one (.cell (.sc u))) ∧
      x = .one (.cell (.sc u)) ∧ sl' = sl
  | .call c => match c.callee with
    | .value (.func f) => ∃ args cs, argsV C.tb sl c.argTypes.toList c.args.toList = some args ∧ (C.sg f).ok = true ∧ cs.length = (C.sg f).cells.length ∧ cs.all CV.fitR = true ∧
        CallD P f args (fun r _ => r = (C.sg f).mk (cs.map CV.asOwn)) ∧ x = (C.sg f).mk cs ∧ sl' = sl
    | .builtin .len => ∃ t y n, c.argTypes.toList = [t] ∧ c.args.toList = [y] ∧ lenK (C.tb t).k (opView C.tb t sl y) = some n ∧
        x = .one (.cell (.sc (.int .i64 n))) ∧ sl' = sl
    | .builtin b => ∃ mx y z u v r, minMax b = some mx ∧ c.args.toList = [y, z] ∧ opView C.tb o.type sl y = some u ∧ opView C.tb o.type sl z = some v ∧ minMaxV mx u v = some r ∧
        x = .one (.cell (.sc r)) ∧ sl' = sl
    | _ => False
  | op => ∃ cs, opV C.tb sl o.type op = some (cs, x, sl') ∧ ∀ p ∈ cs, p

section
variable {P : Program} {C : Cfg} {sl : Sl} {o : Oper} {K : Sl → Prop}

theorem outK_all {part : Bool} {c : List Prop} {dst : Option Nat} {x : SV} (hk : outK C.pin part c x sl dst K) : (∀ p ∈ c, p) ∧ putK C.pin sl dst x K := by
  unfold outK at hk
  rw [conjK_iff] at hk
  refine ⟨hk.1, ?_⟩
  have hk := hk.2
  cases part with
  | false => simpa using hk
  | true =>
    cases x with
    | one r => cases r with
      | cell c => cases c with
        | sc v => cases v with
          | bool b => cases b with
            | true => exact hk.1 rfl
            | false => exact hk.2 rfl
          | _ => exact hk
        | _ => exact hk
      | _ => exact hk
    | _ => exact hk

theorem opK0_out (h : opK0 P C sl o K) : ∃ x sl', OutR0 P C sl o x sl' ∧ putK C.pin sl' o.dst x K := by
  have rest : ∀ op, o.op = op → (match opV C.tb sl o.type op with
      | some (c, x, sl') => forceL sl' fun sl' => outK C.pin (parts op) c x sl' o.dst K
      | none => False) → ∃ x sl', (∃ cs, opV C.tb sl o.type op = some (cs, x, sl') ∧ ∀ p ∈ cs, p) ∧ putK C.pin sl' o.dst x K := by
    intro op _ h
    split at h
    · rename_i c x sl' he
      rw [forceL_eq] at h
      obtain ⟨h1, h2⟩ := outK_all h
      exact ⟨x, sl', ⟨c, he, h1⟩, h2⟩
    · exact h.elim
  unfold opK0 at h
  unfold OutR0
  generalize ho : o.op = op at h
  cases op with
  | pick c a b =>
    dsimp only at h ⊢
    split at h
    · rename_i hc
      split at h
      · rename_i u hu
        exact ⟨_, _, ⟨true, u, hc, hu, rfl, rfl⟩, h⟩
      · exact h.elim
    · rename_i hc
      split at h
      · rename_i u hu
        exact ⟨_, _, ⟨false, u, hc, hu, rfl, rfl⟩, h⟩
      · exact h.elim
    · exact h.elim
  | call c =>
    dsimp only at h ⊢
    cases hcal : c.callee with
    | value f =>
      rw [hcal] at h
      cases f with
      | func f =>
        dsimp only at h ⊢
        split at h
        · rename_i args ha
          unfold callK at h
          split at h
          · exact h.elim
          · rename_i hok
            simp only [Bool.not_eq_false, Bool.and_eq_true] at hok
            obtain ⟨cs, ⟨h1, h2⟩, h3, h4⟩ := exCs_ex _ h
            exact ⟨_, _, ⟨args, cs, ha, hok.1, h3, h4 hok.2, h1, rfl, rfl⟩, splitCs_self _ h2⟩
        · exact h.elim
      | _ => exact h.elim
    | invoke r m => rw [hcal] at h; exact h.elim
    | builtin b =>
      rw [hcal] at h
      cases b with
      | len =>
        dsimp only at h ⊢
        split at h
        · rename_i t y ht hy
          split at h
          · rename_i n hn
            exact ⟨_, _, ⟨t, y, n, ht, hy, hn, rfl, rfl⟩, h⟩
          · exact h.elim
        · exact h.elim
      | _ =>
        dsimp only at h ⊢
        split at h
        · rename_i mx y z hm hyz
          split at h
          · rename_i u v hu hv
            split at h
            · rename_i r hr
              exact ⟨_, _, ⟨mx, y, z, u, v, r, hm, hyz, hu, hv, hr, rfl, rfl⟩, h⟩
            · exact h.elim
          · exact h.elim
        · exact h.elim
  | _ => exact rest _ ho h
end

/- A callee's own data, taken for reading alone. -/
section
variable {w : World} {φ : Option Nat → List Nat} {f g : Nat → Value}
theorem CVRel.demote {v : Value} {ψ : List Nat} {c : CV} (h : CVRel w φ f v ψ c.asOwn) (hf : c.fitR = true) :
    ∃ ψ', ψ'.Sublist ψ ∧ ∀ φ3, (∀ b ∈ ψ, b ∉ ψ' → ∀ t, b ∉ φ3 t) → CVRel w φ3 g v ψ' c := by
  cases c with
  | sc u => exact ⟨ψ, List.Sublist.refl _, fun _ _ => h⟩
  | own d => exact ⟨ψ, List.Sublist.refl _, fun _ _ => h⟩
  | rd d => exact ⟨[], List.nil_sublist _, fun φ3 h3 => ⟨rfl, ψ, Rd.weaken h, fun b hb => h3 b hb (by simp)⟩⟩
  | _ => simp [CV.fitR] at hf
theorem CVs.demote {vs : List Value} {χ : List Nat} : ∀ {cs : List CV}, CVs w φ f vs (cs.map CV.asOwn) χ → cs.all CV.fitR = true → χ.Nodup →
    ∃ χ', χ'.Sublist χ ∧ ∀ φ3, (∀ b ∈ χ, b ∉ χ' → ∀ t, b ∉ φ3 t) → CVs w φ3 g vs cs χ'
  | [], h, _, _ => by cases h; exact ⟨[], List.Sublist.refl _, fun _ _ => .nil⟩
  | c :: cs, h, hf, hn => by
    cases h with
    | cons h1 h2 =>
      rename_i v ψ vs ψs
      simp only [List.all_cons, Bool.and_eq_true] at hf
      obtain ⟨n1, n2, n3⟩ := List.nodup_append.1 hn
      obtain ⟨ψ', s1, k1⟩ := CVRel.demote (g := g) h1 hf.1
      obtain ⟨χ', s2, k2⟩ := CVs.demote h2 hf.2 n2
      refine ⟨ψ' ++ χ', s1.append s2, fun φ3 h3 => .cons (k1 φ3 fun b hb hb' => ?_) (k2 φ3 fun b hb hb' => ?_)⟩
      · exact h3 b (List.mem_append_left _ hb) fun hm => (List.mem_append.1 hm).elim hb' fun hm => n3 b hb b (s2.subset hm) rfl
      · exact h3 b (List.mem_append_right _ hb) fun hm => (List.mem_append.1 hm).elim (fun hm => n3 b (s1.subset hm) b hb rfl) hb'
def RV.asOwn : RV → RV
  | .cell c => .cell c.asOwn
  | .agg cs => .agg (cs.map CV.asOwn)
theorem RVRel.demote {v : Value} {ψ : List Nat} {r : RV} (h : RVRel w φ f v ψ r.asOwn) (hf : r.fitR = true) (hn : ψ.Nodup) :
    ∃ ψ', ψ'.Sublist ψ ∧ ∀ φ3, (∀ b ∈ ψ, b ∉ ψ' → ∀ t, b ∉ φ3 t) → RVRel w φ3 g v ψ' r := by
  cases r with
  | cell c => exact CVRel.demote h hf
  | agg cs =>
    obtain ⟨vs, h1, h2⟩ := h
    obtain ⟨χ', s1, k1⟩ := CVs.demote (g := g) h2 hf hn
    exact ⟨χ', s1, fun φ3 h3 => ⟨vs, h1, k1 φ3 h3⟩⟩
theorem RVs.demote {vs : List Value} {χ : List Nat} : ∀ {rs : List RV}, RVs w φ f vs (rs.map RV.asOwn) χ → rs.all RV.fitR = true → χ.Nodup →
    ∃ χ', χ'.Sublist χ ∧ ∀ φ3, (∀ b ∈ χ, b ∉ χ' → ∀ t, b ∉ φ3 t) → RVs w φ3 g vs rs χ'
  | [], h, _, _ => by cases h; exact ⟨[], List.Sublist.refl _, fun _ _ => .nil⟩
  | c :: cs, h, hf, hn => by
    cases h with
    | cons h1 h2 =>
      rename_i v ψ vs ψs
      simp only [List.all_cons, Bool.and_eq_true] at hf
      obtain ⟨n1, n2, n3⟩ := List.nodup_append.1 hn
      obtain ⟨ψ', s1, k1⟩ := RVRel.demote (g := g) h1 hf.1 n1
      obtain ⟨χ', s2, k2⟩ := RVs.demote h2 hf.2 n2
      refine ⟨ψ' ++ χ', s1.append s2, fun φ3 h3 => .cons (k1 φ3 fun b hb hb' => ?_) (k2 φ3 fun b hb hb' => ?_)⟩
      · exact h3 b (List.mem_append_left _ hb) fun hm => (List.mem_append.1 hm).elim hb' fun hm => n3 b hb b (s2.subset hm) rfl
      · exact h3 b (List.mem_append_right _ hb) fun hm => (List.mem_append.1 hm).elim (fun hm => n3 b (s1.subset hm) b hb rfl) hb'

theorem mkRV_asOwn (a : Bool) (cs : List CV) : mkRV a (cs.map CV.asOwn) = (mkRV a cs).asOwn := by
  unfold mkRV
  split
  · rfl
  · cases cs <;> rfl
theorem chop_asOwn : ∀ (rs : List (Bool × List CV)) (cs : List CV), chop rs (cs.map CV.asOwn) = (chop rs cs).map RV.asOwn
  | [], _ => rfl
  | (a, zs) :: rs, cs => by simp only [chop, List.map_cons, ← List.map_take, ← List.map_drop, mkRV_asOwn, chop_asOwn rs]

theorem mk_rel {v : Value} {χ : List Nat} {rs : RS} {cs : List CV} (hok : rs.ok = true) (hl : cs.length = rs.cells.length)
    (hf : cs.all CV.fitR = true) (hn : χ.Nodup) (h : SlotRel w φ f v χ (rs.mk (cs.map CV.asOwn))) :
    ∃ χ', χ'.Sublist χ ∧ ∀ φ3, (∀ b ∈ χ, b ∉ χ' → ∀ t, b ∉ φ3 t) → SlotRel w φ3 g v χ' (rs.mk cs) := by
  cases rs with
  | one a zs =>
    have h : RVRel w φ f v χ (mkRV a (cs.map CV.asOwn)) := h
    rw [mkRV_asOwn] at h
    refine RVRel.demote (r := mkRV a cs) h ?_ hn
    unfold mkRV
    split
    · exact hf
    · rename_i ha
      simp only [RS.ok, Bool.or_eq_true, ha, Bool.not_eq_true', List.isEmpty_eq_false_iff] at hok
      simp only [RS.cells] at hl
      cases cs with
      | nil => exact absurd (List.length_eq_zero_iff.1 hl.symm) (hok.resolve_left (by simp))
      | cons c cs => simp only [List.all_cons, Bool.and_eq_true] at hf; exact hf.1
  | tup rs =>
    obtain ⟨vs, h1, h2⟩ := h
    rw [chop_asOwn] at h2
    obtain ⟨χ', s1, k1⟩ := RVs.demote (g := g) h2 (chop_fit rs cs hf hl fun r hr => by
      have := List.all_eq_true.1 hok r hr
      simpa using this) hn
    exact ⟨χ', s1, fun φ3 h3 => ⟨vs, h1, k1 φ3 h3⟩⟩
end

section
variable {P : Program} {C : Cfg} {φ : Option Nat → List Nat} {w0 w w' : World} {F0 : List Nat} {sl : Sl} {fx : SV} {ts : Array Value} {fv : Value} {ds : List Deferred} {Q : Exit → Act → World → Prop}

theorem argsRel (h : RelW φ w0 F0 sl fx ts fv w) {os : Array Operand} {tys : List TypeId} {args : List SV} (ha : argsV C.tb sl tys os.toList = some args) :
    RelW (fun _ => []) w [] args .dead (os.map (Act.eval ⟨ts, ds⟩)) undef w := by
  obtain ⟨h1, h2⟩ := argsV_rel (g := valAt (os.map (Act.eval ⟨ts, ds⟩))) h (ds := ds) os.toList tys args ha
  refine ⟨by simpa using h1.symm, fun t x hx => ?_, fun _ => List.nodup_nil, fun _ _ _ b hb => (by cases hb), fun _ b hb => (by cases hb), Ext.refl _ _⟩
  cases t with
  | none => cases hx; exact trivial
  | some t =>
    obtain ⟨o, h3, h4⟩ := h2 t x hx
    have h3' : os[t]? = some o := by simpa using h3
    have : vget (os.map (Act.eval ⟨ts, ds⟩)) undef (some t) = Act.eval ⟨ts, ds⟩ o := by simp [vget, valAt, h3']
    rw [this]
    exact h4

theorem rd_len {o : Bool} {v : Value} {sz : Nat} {es : List DV} {bs : List Nat} (h : Rd o w [v] [.sl sz es] bs) : ∃ a n cap, v = .slice a n cap ∧ (DV.sl sz es).n = n := by
  cases h with
  | e0 _ _ => exact ⟨_, _, _, rfl, by rw [DV.n_eq]; simp⟩
  | sl _ _ _ h4 h5 _ _ => exact ⟨_, _, _, rfl, by rw [DV.n_eq, h4]; exact Nat.mul_div_cancel _ h5.1⟩

theorem asBool_run (b : Bool) (w : World) : (asBool (.bool b)).run P w = .ok b w := by simp [asBool]

theorem sliceD_rel {g : Nat → Value} {v : Value} {χ : List Nat} {x : SV} {d : DV} (hd : sliceD x = some d) (h : SlotRel w φ g v χ x) : ∃ o bs, Rd o w [v] [d] bs := by
  unfold sliceD at hd
  split at hd
  · cases hd; exact ⟨_, _, h⟩
  · cases hd; obtain ⟨-, bs, h1, -⟩ := h; exact ⟨_, _, h1⟩
  · cases hd; obtain ⟨-, -, bs, h1, -⟩ := h; exact ⟨_, _, h1⟩
  · cases hd; obtain ⟨-, a, n, cap, a', n', cap', bs, -, -, -, h1, -⟩ := h; exact ⟨_, _, h1⟩
  · cases hd

theorem len_run (hT : TbOk P C.tb) (h : RelW φ w0 F0 sl fx ts fv w) {t : TypeId} {y : Operand} {n : Int} (hn : lenK (C.tb t).k (opView C.tb t sl y) = some n) :
    ∀ (ats : Array TypeId) (ty : TypeId) (as : Array Value), ats[0]? = some t → as[0]? = some (Act.eval ⟨ts, ds⟩ y) → Sem.run P (Builtin.len_ ats ty as) w = .ok (.int .i64 n) w := by
  intro ats ty as e1 e2
  unfold lenK at hn
  split at hn
  · rename_i b hk hv
    have hu : P.underlying t = some .string := (tiOf hT hk).2.2.2.2.1
    obtain ⟨g1, -, -⟩ := opView_rel (ds := ds) h hv rfl
    cases hn
    simp [Builtin.len_, e1, e2, Sem.run_bind, run_underlying hu, g1, goInt]
  · rename_i e x hk hv
    have hu : P.underlying t = some (.slice e) := (tiOf hT hk).2.2.2.2.1
    simp only [Option.bind_eq_some_iff] at hn
    obtain ⟨d, h1, h2⟩ := hn
    have hf : flat x = true := by
      unfold sliceD at h1
      split at h1 <;> first | rfl | cases h1
    obtain ⟨o, bs, h3⟩ := sliceD_rel h1 (opView_rel (ds := ds) h hv hf)
    cases d with
    | val u => cases h2
    | sl sz es =>
      cases h2
      obtain ⟨a, n, cap, g1, g2⟩ := rd_len h3
      simp [Builtin.len_, e1, e2, Sem.run_bind, run_underlying hu, g1, g2, goInt]
  · cases hn

/-- An operation, as the walk wants it. -/
theorem out0_wp (hT : TbOk P C.tb) {o : Oper} {x : SV} {sl' : Sl} (ho : OutR0 P C sl o x sl') (h : RelW φ w0 F0 sl fx ts fv w) {K : Act → World → Prop}
    (hK : ∀ v w' φ', RelW φ' w0 F0 sl' x ts v w' → K (Act.put ⟨ts, ds⟩ o.dst v) w') : o.wp P ⟨ts, ds⟩ w K Q := by
  have rest : ∀ op, o.op = op → (∃ cs, opV C.tb sl o.type op = some (cs, x, sl') ∧ ∀ p ∈ cs, p) → o.wp P ⟨ts, ds⟩ w K Q := by
    intro op e ⟨cs, h1, h2⟩
    obtain ⟨v, w', φ', h3, h4⟩ := opV_sound (ds := ds) hT h h1 h2
    rcases h3 o.dst o.pos o.after o.guard with g | ⟨g, e'⟩
    · have : (execOp (Act.eval ⟨ts, ds⟩) o).run P w = .ok (.value v) w' := by rw [← g, ← e]
      unfold Oper.wp; rw [this]; exact hK _ _ _ h4
    · have : (execOp (Act.eval ⟨ts, ds⟩) o).run P w = .ok .skip w' := by rw [← g, ← e]
      unfold Oper.wp; rw [this]; subst e'; exact hK _ _ _ h4
  unfold OutR0 at ho
  generalize he : o.op = op at ho
  cases op with
  | pick c a b =>
    obtain ⟨t, u, h1, h2, rfl, rfl⟩ := ho
    have g1 := opView_rel (ds := ds) h h1 rfl
    have g2 := opView_rel (ds := ds) h h2 rfl
    obtain ⟨g1, -, -⟩ := g1
    have : (execOp (Act.eval ⟨ts, ds⟩) o).run P w = .ok (.value (Act.eval ⟨ts, ds⟩ (if t then a else b))) w := by
      simp only [execOp, he, g1, Sem.run_bind, asBool_run]
      cases t <;> rfl
    unfold Oper.wp; rw [this]
    exact hK _ _ _ (h.see g2)
  | call c =>
    dsimp only at ho
    cases hcal : c.callee with
    | value f =>
      rw [hcal] at ho
      cases f with
      | func f =>
        obtain ⟨args, cs, h1, h2, h3, h4, h5, rfl, rfl⟩ := ho
        obtain ⟨⟨fn, c1, c2, c3⟩, h6⟩ := h5
        have c2' : fn.name ≠ "runtime.NumGoroutine" := by simpa using c2
        have c3' : fn.body ≠ none := fun e => by rw [e] at c3; cases c3
        have hrun : (execOp (Act.eval ⟨ts, ds⟩) o).run P w = .ok (.enter f (c.args.map (Act.eval ⟨ts, ds⟩))) w := by
          simp [execOp, he, resolve, hcal, Act.eval, Deferred.ofValue, invoke, callFunc, c1, c2', c3']
        unfold Oper.wp; rw [hrun]
        have hz : ((List.range args.length).flatMap fun t => (fun _ => [] : Option Nat → List Nat) (some t)) = [] := by simp
        have := h6 w (c.args.map (Act.eval ⟨ts, ds⟩)) (fun _ => []) (by rw [hz]; exact argsRel h h1) rfl
        rw [hz] at this
        refine this.mono fun e w' ⟨v, r, args', φ', e1, e2, e3, e4⟩ => ?_
        subst e1 e2
        obtain ⟨χ', s1, k1⟩ := mk_rel (g := valAt ts) h2 h3 h4 (e4.nd none) (e4.slot none _ rfl)
        have new : ∀ b ∈ φ' none, w.heap.size ≤ b ∧ b < w'.heap.size := fun b hb => by
          refine ⟨?_, (e4.lt none b hb).1⟩
          rcases (e4.lt none b hb).2 with g | g
          · exact g
          · cases g
        refine hK v w' _ (h.fresh e4.ext (ψ := χ') (s1.nodup (e4.nd none)) (fun b hb => new b (s1.subset hb)) (k1 _ fun b hb hb' t ht => ?_))
        cases t with
        | none => exact hb' ht
        | some t => have := (h.lt (some t) b ht).1; have := (new b hb).1; omega
      | _ => exact ho.elim
    | invoke r m => rw [hcal] at ho; exact ho.elim
    | builtin b =>
      rw [hcal] at ho
      cases b with
      | len =>
        obtain ⟨t, y, n, h0, h1, h2, rfl, rfl⟩ := ho
        have h0' : c.argTypes[0]? = some t := by rw [← Array.getElem?_toList, h0]; rfl
        have h1' : c.args[0]? = some y := by rw [← Array.getElem?_toList, h1]; rfl
        have hrun : (execOp (Act.eval ⟨ts, ds⟩) o).run P w = .ok (.value (.int .i64 n)) w := by
          have := len_run (ds := ds) hT h h2 c.argTypes o.type (c.args.map (Act.eval ⟨ts, ds⟩)) h0' (by simp [h1'])
          simp only [execOp, he, resolve, hcal, invoke, builtin, Sem.run_bind, Sem.run_pure, Result.andThen_ok, this]
        unfold Oper.wp; rw [hrun]
        exact hK _ _ _ (h.see ⟨rfl, rfl, rfl⟩)
      | _ =>
        obtain ⟨mx, y, z, u, v, r, h0, h1, h2, h3, h4, rfl, rfl⟩ := ho
        unfold minMaxV at h4
        split at h4
        · rename_i k a k' b
          split at h4
          · rename_i hk
            have hk := sameK_eq hk
            subst hk
            cases h4
            obtain ⟨g1, -⟩ := opView_sc (ds := ds) h h2
            obtain ⟨g2, -⟩ := opView_sc (ds := ds) h h3
            have e1 : List.map (Act.eval ⟨ts, ds⟩) c.args.toList = [.int k a, .int k b] := by simp [h1, g1, g2]
            have hrun : (execOp (Act.eval ⟨ts, ds⟩) o).run P w = .ok (.value (.int k (if mx = true then (if a < b then b else a) else (if b < a then b else a)))) w := by
              first
                | (cases h0; done)
                | (cases h0
                   simp [execOp, he, resolve, hcal, invoke, builtin, Builtin.min_, Builtin.max_, e1, Builtin.min2, Builtin.max2])
            unfold Oper.wp; rw [hrun]
            exact hK _ _ _ (h.see (x := .one (.cell (.sc _))) ⟨rfl, rfl, rfl⟩)
          · cases h4
        · cases h4
  | _ => exact rest _ he ho
end
end Go.Proofs.Ytckcehmggdnliaa.DL
