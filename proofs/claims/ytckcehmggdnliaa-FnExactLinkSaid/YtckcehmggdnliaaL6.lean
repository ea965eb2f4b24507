/- The data level, part 6: the operations without a call do what is told of them. -/
import Derived.Test.YtckcehmggdnliaaL5
import Derived.Laws.Entries
import Derived.Laws.MakeOwn
namespace Go.Proofs.Ytckcehmggdnliaa.DL
open Go Go.RowKit

def zeroV : CV → Value
  | .sc v => v
  | .own _ => .slice none 0 0
  | _ => undef
def zeroOk : CV → Bool
  | .sc v => isSc v
  | .own (.sl _ []) => true
  | _ => false
/-- A row of the table fits the program. -/
def TIok (P : Program) (t : TypeId) (i : TI) : Prop :=
  match i.k with
  | .other => i.size = 0
  | k => (∃ j z, P.info? t = some j ∧ j.size = i.size ∧ j.zero = some z ∧ z.cells.toList = i.zero.map zeroV ∧ j.bytes = i.bytes) ∧ i.zero.all zeroOk = true ∧ i.zero.length = i.size ∧ 0 < i.size ∧
    match k with
    | .int k => P.underlying t = some (.int k) ∧ i.size = 1
    | .bool => P.underlying t = some .bool ∧ i.size = 1
    | .string => P.underlying t = some .string ∧ i.size = 1
    | .slice e => P.underlying t = some (.slice e) ∧ i.size = 1
    | .struct offs => ∃ fs, P.underlying t = some (.struct fs) ∧ fs.toList.map (·.offset) = offs ∧ (fs.toList.all fun f => (P.info? f.type).any fun j => j.size != 0) = true ∧
      fs.toList.mapM (fun f => (P.info? f.type).map fun j => (f.offset, j.size)) = some (offs.zip i.szs)
    | .array n e => P.underlying t = some (.array n e)
    | .other => True
/-- Fields that are integers, one after the other. -/
def eqFsB (P : Program) : Nat → List Field → Nat → Bool
  | off, [], n => off == n
  | off, f :: fs, n => f.name != "_" && f.offset == off && (match P.underlying f.type with
    | some (.int _) => true
    | _ => false) && eqFsB P (off + 1) fs n
/-- A struct of integers alone. -/
def eqTyB (P : Program) (t : TypeId) (n : Nat) : Bool :=
  match P.underlying t with
  | some (.struct fs) => !P.stoodInHeld t && !P.eqGuardType P.depth t && eqFsB P 0 fs.toList n
  | _ => false
def TbOk (P : Program) (tb : Tb) : Prop := ∀ t, TIok P t (tb t) ∧ ((tb t).eq = true → eqTyB P t (tb t).size = true)

theorem conjK_iff (cs : List Prop) (K : Prop) : conjK cs K ↔ (∀ c ∈ cs, c) ∧ K := by
  induction cs with
  | nil => simp [conjK]
  | cons c cs ih =>
    simp only [conjK, ih]
    constructor
    · rintro ⟨h1, h2, h3⟩
      refine ⟨fun x hx => ?_, h3⟩
      rcases List.mem_cons.1 hx with rfl | hx
      · exact h1
      · exact h2 x hx
    · rintro ⟨h1, h2⟩
      exact ⟨h1 c (List.mem_cons_self ..), fun x hx => h1 x (List.mem_cons_of_mem _ hx), h2⟩

/-- What the operation comes to: a value, or nothing. -/
def Yields (P : Program) (op : Op) (ty : TypeId) (ρ : Operand → Value) (w : World) (v : Value) (w' : World) : Prop :=
  ∀ dst pos after guard, (execOp ρ ⟨dst, op, ty, pos, after, guard⟩).run P w = .ok (.value v) w' ∨
    ((execOp ρ ⟨dst, op, ty, pos, after, guard⟩).run P w = .ok .skip w' ∧ v = undef)

section
variable {P : Program} {tb : Tb} {φ : Option Nat → List Nat} {w0 w w' : World} {F0 : List Nat} {sl : Sl} {fx : SV} {ts : Array Value} {fv : Value} {ds : List Deferred}

/-- No struct, no tuple: such a value may be seen where it lies. -/
def flat : SV → Bool
  | .tup _ | .one (.agg _) => false
  | _ => true

theorem resC_rel (h : RelW φ w0 F0 sl fx ts fv w) {v : Value} {ψ : List Nat} {c : CV} (hc : CVRel w φ (valAt ts) v ψ c) : CVRel w φ (valAt ts) v ψ (resC sl c) := by
  unfold resC
  split
  · rename_i s p
    obtain ⟨rfl, h1⟩ := hc
    have hg := gt_rel h s
    split
    · rename_i d hd
      unfold topOwn at hd
      split at hd
      · rename_i d' e
        cases hd
        rw [e] at hg
        have e1 : valAt ts s = v := Option.some.inj h1
        have hg : Rd true w [valAt ts s] [d] (φ (some s)) := hg
        rw [e1] at hg
        exact ⟨rfl, h1, _, hg.weaken, fun b hb => hb⟩
      · rename_i cs j e
        split at hd
        · rename_i d' hj
          cases hd
          rw [e] at hg
          obtain ⟨-, b0, c0, el0, ψs0, m1, m2, m3, m4⟩ := hg
          have key : ∀ (vs : List Value) (cs : List CV) (ψ : List Nat), CVs w φ (valAt ts) vs cs ψ → ∀ j, cs.getD j .un = .own d → ∃ u χ, vs[j]? = some u ∧ Rd true w [u] [d] χ ∧ ∀ b ∈ χ, b ∈ ψ := by
            intro vs cs ψ hcv
            induction hcv with
            | nil => intro j hj; simp at hj
            | cons g1 _ ih =>
              intro j hj
              cases j with
              | zero =>
                simp at hj
                subst hj
                exact ⟨_, _, rfl, g1, fun b hb => by simp [hb]⟩
              | succ j =>
                obtain ⟨u, χ, k1, k2, k3⟩ := ih j (by simpa using hj)
                exact ⟨u, χ, by simpa using k1, k2, fun b hb => by simp [k3 b hb]⟩
          obtain ⟨u, χ, k1, k2, k3⟩ := key _ _ _ m3 j hj
          have hu : u = v := by
            rw [m1] at h1
            simp only [hdr, locOf] at h1
            rw [if_pos (by rw [m4]; exact List.mem_cons_self ..)] at h1
            have hcell : w.cell? ⟨b0, 0 + j, none⟩ = some u := by
              simp only [World.cell?, m2, Nat.zero_add]
              simpa using k1
            rw [hcell] at h1
            simpa [hdr] using h1
          subst hu
          exact ⟨rfl, (by rw [← m1] at *; exact h1), χ, k2.weaken, fun b hb => by rw [m4]; exact List.mem_cons_of_mem _ (k3 b hb)⟩
        · cases hd
      · cases hd
    · exact ⟨rfl, h1⟩
  · exact hc
theorem resCs_rel (h : RelW φ w0 F0 sl fx ts fv w) {vs : List Value} {ψ : List Nat} {cs : List CV} (hc : CVs w φ (valAt ts) vs cs ψ) : CVs w φ (valAt ts) vs (cs.map (resC sl)) ψ := by
  induction hc with
  | nil => exact .nil
  | cons h1 _ ih => exact .cons (resC_rel h h1) ih

theorem view_rel (h : RelW φ w0 F0 sl fx ts fv w) (t : Nat) (hf : flat (gt sl t) = true) : SlotRel w φ (valAt ts) (valAt ts t) [] (view sl t) := by
  have hg := gt_rel h t
  unfold view
  split
  · rename_i d e
    rw [e] at hg
    have hg : Rd true w [valAt ts t] [d] (φ (some t)) := hg
    exact ⟨rfl, rfl, φ (some t), Rd.weaken hg, fun b hb => hb⟩
  · rename_i c hn e
    rw [e] at hg
    have hno : c.isOwn = false := by
      cases c with
      | own d => exact (hn d rfl).elim
      | _ => rfl
    exact resC_rel h (CVRel.bare hg hno)
  · rename_i cs e
    rw [e] at hf
    simp [flat] at hf
  · rename_i cs e
    rw [e] at hg
    obtain ⟨-, b, c, el, ψs, h1, h2, h3, h4⟩ := hg
    exact ⟨rfl, valAt ts t, b, 0, rfl, by rw [h1]; rfl, by rw [h1]⟩
  · rename_i n1 n2 n3 n4
    generalize gt sl t = x at *
    cases x with
    | dead => exact trivial
    | und => exact hg
    | tup rs => simp [flat] at hf
    | box cs => exact absurd rfl (n4 cs)
    | ptr s q j => exact ⟨rfl, hg.2⟩
    | rptr ds => exact ⟨rfl, hg.2⟩
    | cloR g caps => exact ⟨rfl, hg.2⟩
    | cloS g ss => exact ⟨rfl, hg.2⟩
    | one r =>
      cases r with
      | agg cs => exact absurd rfl (n3 cs)
      | cell c => exact absurd rfl (n2 c)

theorem const_rel {ty : TypeId} {v : Value} {x : SV} (φ : Option Nat → List Nat) (f : Nat → Value) (h : constSV tb ty v = some x) : SlotRel w φ f v [] x := by
  unfold constSV at h
  split at h
  · cases h; exact ⟨rfl, rfl, rfl⟩
  · cases h; exact ⟨rfl, rfl, rfl⟩
  · cases h; exact ⟨rfl, rfl, rfl⟩
  · split at h
    · cases h
      exact Rd.e0 (fun _ => rfl) .nil
    · cases h
  · cases h

theorem opView_rel {ty : TypeId} {o : Operand} {x : SV} (h : RelW φ w0 F0 sl fx ts fv w) (hx : opView tb ty sl o = some x) (hf : flat x = true) :
    SlotRel w φ (valAt ts) (Act.eval ⟨ts, ds⟩ o) [] x := by
  cases o with
  | tmp t =>
    simp only [opView, Option.some.injEq] at hx
    subst hx
    refine view_rel h t ?_
    unfold view at hf
    generalize gt sl t = y at *
    cases y with
    | one r => cases r with
      | cell c => rfl
      | agg cs => simp [flat] at hf
    | tup rs => simpa using hf
    | _ => rfl
  | const v => exact const_rel φ _ hx
  | func f =>
    simp only [opView, Option.some.injEq] at hx
    subst hx
    exact ⟨rfl, #[], rfl, .nil⟩
  | global g => simp [opView] at hx

theorem opView_sc {ty : TypeId} {o : Operand} {u : Value} (h : RelW φ w0 F0 sl fx ts fv w) (hx : opView tb ty sl o = some (.one (.cell (.sc u)))) : Act.eval ⟨ts, ds⟩ o = u ∧ isSc u = true := by
  have := opView_rel (ds := ds) h hx rfl
  exact ⟨this.1, this.2.1⟩

theorem opTake_rel {ty : TypeId} {o : Operand} {x : SV} {sl' : Sl} (h : RelW φ w0 F0 sl fx ts fv w) (hx : opTake tb ty sl o = some (x, sl')) :
    ∃ φ', RelW φ' w0 F0 sl' x ts (Act.eval ⟨ts, ds⟩ o) w := by
  cases o with
  | tmp t =>
    simp only [opTake, Option.some.injEq] at hx
    have := h.take t
    rw [hx] at this
    exact this
  | const v =>
    simp only [opTake, Option.map_eq_some_iff] at hx
    obtain ⟨y, hy, he⟩ := hx
    cases he
    exact ⟨_, h.see (const_rel φ _ hy)⟩
  | func f =>
    simp only [opTake, Option.some.injEq] at hx
    cases hx
    exact ⟨_, h.see ⟨rfl, #[], rfl, .nil⟩⟩
  | global g => simp [opTake] at hx

theorem yields_pure {op : Op} {ty : TypeId} {ρ : Operand → Value} {v : Value} (h : ∀ dst pos after guard, execOp ρ ⟨dst, op, ty, pos, after, guard⟩ = pure (.value v)) : Yields P op ty ρ w v w :=
  fun dst pos after guard => .inl (by rw [h]; rfl)
theorem yields_val {op : Op} {ty : TypeId} {ρ : Operand → Value} {s : Sem Value} {v : Value} (h : ∀ dst pos after guard, execOp ρ ⟨dst, op, ty, pos, after, guard⟩ = (do pure (.value (← s))))
    (hs : s.run P w = .ok v w') : Yields P op ty ρ w v w' :=
  fun dst pos after guard => .inl (by rw [h, Sem.run_bind, hs]; rfl)
theorem yields_unit {op : Op} {ty : TypeId} {ρ : Operand → Value} {s : Sem Unit} (h : ∀ dst pos after guard, execOp ρ ⟨dst, op, ty, pos, after, guard⟩ = (do s; pure .skip))
    (hs : s.run P w = .ok () w') : Yields P op ty ρ w undef w' :=
  fun dst pos after guard => .inr ⟨by rw [h, Sem.run_bind, hs]; rfl, rfl⟩

theorem info_of (hT : TbOk P tb) {t : TypeId} (hk : (tb t).k ≠ .other) : ∃ j z, P.info? t = some j ∧ j.size = (tb t).size ∧ j.zero = some z ∧ z.cells.toList = (tb t).zero.map zeroV ∧ j.bytes = (tb t).bytes := by
  have := (hT t).1
  unfold TIok at this
  split at this
  · rename_i h; exact absurd h hk
  · exact this.1

/-- The value in flight becomes another one: its blocks may be written, new ones may come to it. -/
theorem RelW.refly (h : RelW φ w0 F0 sl fx ts fv w) (hx : Ext (φ none) w w') {v : Value} {ψ : List Nat} {x : SV} (hnd : ψ.Nodup)
    (hlt : ∀ b ∈ ψ, b < w'.heap.size ∧ (b ∈ φ none ∨ w.heap.size ≤ b)) (hrel : SlotRel w' (setN φ ψ) (valAt ts) v ψ x) : RelW (setN φ ψ) w0 F0 sl x ts v w' :=
  h.update [none] h.len (by simpa using hx) (fun t ht => by simp [setN, show t ≠ none from fun e => ht (by simp [e])])
    (fun m hm b hb => by
      have : m = none := by simpa using hm
      subst this
      have := hlt b (by simpa [setN] using hb)
      exact ⟨this.1, this.2.imp (fun h => ⟨none, by simp, h⟩) id⟩)
    (fun m hm => by
      have : m = none := by simpa using hm
      subst this
      simpa [setN] using hnd)
    (fun m hm m' hm' hne => by
      have e1 : m = none := by simpa using hm
      have e2 : m' = none := by simpa using hm'
      exact absurd (e1.trans e2.symm) hne)
    (fun t ht => by
      cases t with
      | none => simp at ht
      | some t => rfl)
    (fun t ht => by
      cases t with
      | none => simp at ht
      | some t => exact ⟨rfl, fun y _ => .inl fun r _ => by simp⟩)
    (fun m hm y hy => by
      have : m = none := by simpa using hm
      subst this
      cases hy
      simpa [setN, vget] using hrel)

/-- What may be kept of a relation when new blocks come to what is in flight. -/
theorem Kept.setN {ψ χ : List Nat} {R : List Nat} (hx : Ext [] w w') (hχ : ∀ b ∈ χ, b ∈ φ none ∨ w.heap.size ≤ b) (hψ : ∀ b ∈ ψ, b < w.heap.size) (hl : ∀ t, ∀ b ∈ φ t, b < w.heap.size) :
    Kept w φ (valAt ts) w' (DL.setN φ χ) (valAt ts) ψ R :=
  ⟨hx.size, fun b hb => hx.block b (hψ b hb) (by simp), fun r _ => ⟨rfl, by simp [DL.setN], fun b hb => hx.block b (hl _ b hb) (by simp)⟩, fun b hb hf => ⟨hx.block b hb (by simp), fun t ht => by
    unfold DL.setN at ht
    split at ht
    · rcases hχ b ht with h | h
      · exact hf none h
      · omega
    · exact hf t ht⟩⟩

theorem CVs.zero {f : Nat → Value} : ∀ {zs : List CV}, zs.all zeroOk = true → CVs w φ f (zs.map zeroV) zs []
  | [], _ => .nil
  | z :: zs, h => by
    simp only [List.all_cons, Bool.and_eq_true] at h
    have h1 : CVRel w φ f (zeroV z) [] z := by
      cases z with
      | sc v => exact ⟨rfl, h.1, rfl⟩
      | own d =>
        cases d with
        | val v => simp [zeroOk] at h
        | sl sz es =>
          cases es with
          | nil => exact .e0 (fun _ => rfl) .nil
          | cons _ _ => simp [zeroOk] at h
      | _ => simp [zeroOk] at h
    have := CVs.cons h1 (CVs.zero h.2)
    simpa using this

theorem run_zeroValue {t : TypeId} {i : TypeInfo} {z : Value} (hi : P.info? t = some i) (hz : i.zero = some z) : (zeroValue t).run P w = .ok z w := by
  simp [zeroValue, typeInfo, hi, hz]

theorem heap_alloc_self (w : World) (o : Obj) : (w.alloc o).heap[w.heap.size]? = some o := by
  show (w.heap.push o)[w.heap.size]? = _
  simp

/-- A new block of cells, as a box. -/
theorem RelW.newBox (h : RelW φ w0 F0 sl fx ts fv w) {c : Array Value} {el : TypeId} {cs : List CV} (hc : CVs w φ (valAt ts) c.toList cs (φ none)) (hcr : ∀ c ∈ cs, c.roots = []) :
    ∃ φ', RelW φ' w0 F0 sl (.box cs) ts (.pointer (some ⟨w.heap.size, 0, none⟩)) (w.alloc (.cells c el)) := by
  have hl : ∀ t, ∀ b ∈ φ t, b < w.heap.size := fun t b hb => (h.lt t b hb).1
  refine ⟨setN φ (w.heap.size :: φ none), h.refly ((Ext.alloc w _).mono (by simp)) ?_ ?_ ?_⟩
  · exact List.nodup_cons.2 ⟨fun hm => Nat.lt_irrefl _ (hl none _ hm), h.nd none⟩
  · intro b hb
    have hs : (w.alloc (.cells c el)).heap.size = w.heap.size + 1 := by show (w.heap.push _).size = _; simp
    rcases List.mem_cons.1 hb with rfl | hb
    · exact ⟨by omega, .inr (Nat.le_refl _)⟩
    · exact ⟨by have := hl none b hb; omega, .inl hb⟩
  · refine ⟨hcr, w.heap.size, c, el, φ none, rfl, heap_alloc_self w _, hc.kept (Kept.setN (Ext.alloc w _) (fun b hb => ?_) (hl none) hl), rfl⟩
    rcases List.mem_cons.1 hb with rfl | hb
    · exact .inr (Nat.le_refl _)
    · exact .inl hb

theorem alloc_sound (hT : TbOk P tb) (h : RelW φ w0 F0 sl fx ts fv w) {e ty : TypeId} (hk : (tb e).k ≠ .other) (ρ : Operand → Value) :
    ∃ v w' φ', Yields P (.alloc e) ty ρ w v w' ∧ RelW φ' w0 F0 sl (.box (tb e).zero) ts v w' := by
  obtain ⟨j, z, h1, h2, h3, h4, h5⟩ := info_of hT hk
  have hz : (tb e).zero.all zeroOk = true := by
    have := (hT e).1
    unfold TIok at this
    split at this
    · rename_i h; exact absurd h hk
    · exact this.2.1
  have h' := h.see (v := undef) (x := .dead) trivial
  obtain ⟨φ', hr⟩ := h'.newBox (c := z.cells) (el := e) (cs := (tb e).zero) (by
    rw [h4]
    have : setN φ [] none = [] := rfl
    rw [this]
    exact CVs.zero hz) (fun c hc => by
    have := List.all_eq_true.1 hz c hc
    cases c <;> simp_all [zeroOk, CV.roots])
  exact ⟨_, _, φ', yields_val (s := Instr.alloc e true (.tuple #[])) (fun _ _ _ _ => rfl) (by
    simp [Instr.alloc, Sem.run_bind, run_zeroValue h1 h3, newVar, newRow, newObj]; rfl), hr⟩

theorem box_sound {e ty : TypeId} {o : Operand} {x : SV} {sl' : Sl} {cs : List CV} (h : RelW φ w0 F0 sl fx ts fv w) (hx : opTake tb ty sl o = some (x, sl')) (hb : boxOf x = some cs) :
    ∃ v w' φ', Yields P (.box e o) ty (Act.eval ⟨ts, ds⟩) w v w' ∧ RelW φ' w0 F0 sl' (.box cs) ts v w' := by
  obtain ⟨φ1, h1⟩ := opTake_rel (ds := ds) h hx
  have hv : CVs w φ1 (valAt ts) (Act.eval ⟨ts, ds⟩ o).cells.toList cs (φ1 none) := by
    have hr := h1.slot none x rfl
    simp only [vget] at hr
    generalize Act.eval ⟨ts, ds⟩ o = v at *
    unfold boxOf at hb
    cases x with
    | one r =>
      cases r with
      | agg cs' =>
        simp only [cellsOf] at hb
        split at hb
        · cases hb
          obtain ⟨vs, h2, h3⟩ := hr
          rw [h2]; exact h3
        · cases hb
      | cell c =>
        simp only [cellsOf] at hb
        split at hb
        · rename_i hf
          cases hb
          have hc : v.cells = #[v] := by
            have hr' : CVRel w φ1 (valAt ts) v (φ1 none) c := hr
            cases c with
            | un => simp [CV.free] at hf
            | sc u =>
              obtain ⟨rfl, hs, _⟩ := hr'
              cases v <;> simp_all [isSc, Value.cells]
            | rd d =>
              obtain ⟨_, bs, hr', _⟩ := hr'
              cases hr' with
              | sc hs _ => cases v <;> simp_all [isSc, Value.cells]
              | e0 _ _ => rfl
              | sl _ _ _ _ _ _ _ => rfl
            | own d =>
              have hr' : Rd true w [v] [d] (φ1 none) := hr'
              generalize φ1 none = ψ at hr'
              cases hr' with
              | sc hs _ => cases v <;> simp_all [isSc, Value.cells]
              | e0 _ _ => rfl
              | sl _ _ _ _ _ _ _ => rfl
            | ref s p d => simp [CV.free] at hf
            | sub s p lo d => simp [CV.free] at hf
            | nb es => simp [CV.free] at hf
            | hd s p => simp [CV.free] at hf
          rw [hc]
          have := CVs.cons (w := w) (φ := φ1) (f := valAt ts) (show CVRel w φ1 (valAt ts) v (φ1 none) c from hr) .nil
          simpa using this
        · cases hb
    | _ => simp [cellsOf] at hb
  obtain ⟨φ2, h2⟩ := h1.newBox (el := e) hv (fun c hc => by
    unfold boxOf at hb
    split at hb
    · split at hb
      · rename_i hf
        cases hb
        have := List.all_eq_true.1 hf c hc
        cases c <;> simp_all [CV.free, CV.roots]
      · cases hb
    · cases hb)
  exact ⟨_, _, φ2, yields_val (s := Instr.box e (Act.eval ⟨ts, ds⟩ o)) (fun _ _ _ _ => rfl) (by
    simp [Instr.box, newVar, newRow, newObj]; rfl), h2⟩

end

end Go.Proofs.Ytckcehmggdnliaa.DL
