/- The data level, part 8: the local operations, one by one. -/
import Derived.Test.YtckcehmggdnliaaL7
namespace Go.Proofs.Ytckcehmggdnliaa.DL
open Go Go.RowKit

theorem CVs.single {w : World} {φ : Option Nat → List Nat} {f : Nat → Value} {us : List Value} {c : CV} {ψ : List Nat} (h : CVs w φ f us [c] ψ) : ∃ v, us = [v] ∧ CVRel w φ f v ψ c := by
  generalize hcs : [c] = cs at h
  cases h with
  | nil => cases hcs
  | @cons v c' ψ1 vs cs' ψ2 h1 h2 =>
    cases hcs
    generalize hn : ([] : List CV) = ns at h2
    cases h2 with
    | nil => exact ⟨v, rfl, by simpa using h1⟩
    | cons _ _ => cases hn

section
variable {P : Program} {tb : Tb} {φ : Option Nat → List Nat} {w0 w w' : World} {F0 : List Nat} {sl : Sl} {fx : SV} {ts : Array Value} {fv : Value} {ds : List Deferred}

/-- What is asked of each operation. -/
def Sound (P : Program) (w0 : World) (F0 : List Nat) (ts : Array Value) (ds : List Deferred) (w : World) (op : Op) (ty : TypeId) (x : SV) (sl' : Sl) : Prop :=
  ∃ v w' φ', Yields P op ty (Act.eval ⟨ts, ds⟩) w v w' ∧ RelW φ' w0 F0 sl' x ts v w'

theorem tiOf (hT : TbOk P tb) {t : TypeId} {k : TK} (hk : (tb t).k = k) : TIok P t ⟨k, (tb t).size, (tb t).zero, (tb t).bytes, (tb t).szs, (tb t).eq⟩ := by
  have := (hT t).1
  rw [← hk]
  exact this

theorem run_loadAt_one {t : TypeId} {d : TypeDesc} {a : Addr} {u : Value} (hu : P.underlying t = some d) (hd : d.isRow = false) (hc : w.cell? a = some u) :
    (Instr.loadAt t (.pointer (some a))).run P w = .ok u w := by
  have hagg : (isAgg t).run P w = .ok false w := by
    unfold isAgg
    rw [Sem.run_bind, run_underlying hu w]
    cases d <;> simp_all
  simp [Instr.loadAt, Instr.sureAddr, loadVar, Sem.run_bind, hagg, load, Sem.run, hc]

theorem load_run (hT : TbOk P tb) {t : TypeId} {b o : Nat} {us : List Value} {cs : List CV} {r : RV} (hlen : us.length = (tb t).zero.length) (hr : w.rangeAt b o us)
    (hc : CVs w φ (valAt ts) us cs []) (hw : wrapCs (tb t).k cs = some r) :
    ∃ v, (Instr.loadAt t (.pointer (some ⟨b, o, none⟩))).run P w = .ok v w ∧ RVRel w φ (valAt ts) v [] r := by
  have agg : ∀ d, P.underlying t = some d → d.isRow = true → r = .agg cs → (P.info? t).map (·.size) = some us.length → ∃ v, (Instr.loadAt t (.pointer (some ⟨b, o, none⟩))).run P w = .ok v w ∧ RVRel w φ (valAt ts) v [] r := by
    intro d h1 h2 h3 h4
    refine ⟨.agg us.toArray, run_loadAt_mid w b o t us d hr h1 h2 h4, ?_⟩
    rw [h3]
    exact ⟨us.toArray, rfl, by simpa using hc⟩
  have one : ∀ d, P.underlying t = some d → d.isRow = false → (∃ c, cs = [c] ∧ r = .cell c) → ∃ v, (Instr.loadAt t (.pointer (some ⟨b, o, none⟩))).run P w = .ok v w ∧ RVRel w φ (valAt ts) v [] r := by
    rintro d h1 h2 ⟨c, rfl, rfl⟩
    obtain ⟨v, rfl, h3⟩ := hc.single
    exact ⟨v, run_loadAt_one h1 h2 (by simpa using hr 0 v rfl), h3⟩
  have := (hT t).1
  unfold TIok at this
  have cellOf : (match cs with | [c] => some (RV.cell c) | _ => none) = some r → ∃ c, cs = [c] ∧ r = .cell c := fun hw => by
    split at hw
    · cases hw; exact ⟨_, rfl, rfl⟩
    · cases hw
  have size : (∃ j z, P.info? t = some j ∧ j.size = (tb t).size ∧ j.zero = some z ∧ z.cells.toList = (tb t).zero.map zeroV ∧ j.bytes = (tb t).bytes) → (tb t).zero.length = (tb t).size → (P.info? t).map (·.size) = some us.length := by
    rintro ⟨j, z, h1, h2, _⟩ h3
    rw [h1]; simp [h2, hlen, h3]
  cases hk : (tb t).k with
  | other => rw [hk] at hw; cases hw
  | int k => rw [hk] at this hw; exact one _ this.2.2.2.2.1 rfl (cellOf hw)
  | bool => rw [hk] at this hw; exact one _ this.2.2.2.2.1 rfl (cellOf hw)
  | string => rw [hk] at this hw; exact one _ this.2.2.2.2.1 rfl (cellOf hw)
  | slice e => rw [hk] at this hw; exact one _ this.2.2.2.2.1 rfl (cellOf hw)
  | struct offs => rw [hk] at this; obtain ⟨h1, _, h3, _, fs, h5, _, _⟩ := this; rw [hk] at hw; exact agg _ h5 rfl (by cases hw; rfl) (size h1 h3)
  | array n e => rw [hk] at this; obtain ⟨h1, _, h3, _, h5⟩ := this; rw [hk] at hw; exact agg _ h5 rfl (by cases hw; rfl) (size h1 h3)

theorem load_sound (hT : TbOk P tb) (h : RelW φ w0 F0 sl fx ts fv w) {t ty : TypeId} {a : Operand} {p x : SV} {cs : List Prop}
    (hp : opView tb ty sl a = some p) (hl : loadV tb t sl p = some (cs, x)) (hc : ∀ c ∈ cs, c) : Sound P w0 F0 ts ds w (.load t a) ty x sl := by
  unfold loadV at hl
  cases p with
  | ptr s q j =>
    obtain ⟨-, hv, b, o, h2, h3, h5⟩ := opView_rel (ds := ds) h hp rfl
    simp only at hl
    split at hl
    · rename_i c ys hcs
      simp only [Option.map_eq_some_iff, Prod.mk.injEq] at hl
      obtain ⟨r, hr, rfl, rfl⟩ := hl
      obtain ⟨us, g1, g2, g3⟩ := loadCs_sound h h2 h3 _ _ _ _ hcs hc
      obtain ⟨v, k1, k2⟩ := load_run hT g1 g2 g3 hr
      exact ⟨v, w, _, yields_val (s := Instr.loadAt t (Act.eval ⟨ts, ds⟩ a)) (fun _ _ _ _ => rfl) (by rw [h5]; exact k1), h.see (x := .one r) k2⟩
    · cases hl
  | rptr es =>
    obtain ⟨-, b, o, vs, bs, h1, h2, h3, h4, h5, h6⟩ := opView_rel (ds := ds) h hp rfl
    simp only [Option.map_eq_some_iff, Prod.mk.injEq] at hl
    obtain ⟨r, hr, rfl, rfl⟩ := hl
    have hle := hc _ (List.mem_cons_self ..)
    have hsz : (tb t).zero.length = (tb t).size := by
      have := (hT t).1
      unfold TIok at this
      split at this
      · rename_i hk; rw [hk] at hr; simp [wrapCs] at hr
      · exact this.2.2.1
    have g3 := loadRs_sound (φ := φ) (ts := ts) h4 h6 (tb t).zero (by rw [hsz]; exact hle) fun p hp => hc p (List.mem_cons_of_mem _ hp)
    have g1 : (vs.take (tb t).zero.length).length = (tb t).zero.length := by rw [List.length_take, h4.length]; omega
    obtain ⟨v, k1, k2⟩ := load_run hT g1 (b := b) (o := o) (w := w) (fun k v hk => h2 k v (by
      rw [List.getElem?_take] at hk
      split at hk
      · exact hk
      · cases hk)) g3 hr
    exact ⟨v, w, _, yields_val (s := Instr.loadAt t (Act.eval ⟨ts, ds⟩ a)) (fun _ _ _ _ => rfl) (by rw [h1]; exact k1), h.see (x := .one r) k2⟩
  | _ => cases hl

theorem move_sound (h : RelW φ w0 F0 sl fx ts fv w) {ty : TypeId} {o : Operand} {cs : List Prop} {x : SV} {sl' : Sl} (hx : opV tb sl ty (.move o) = some (cs, x, sl')) :
    Sound P w0 F0 ts ds w (.move o) ty x sl' := by
  have see : ∀ y, opView tb ty sl o = some y → flat y = true → x = y → sl' = sl → Sound P w0 F0 ts ds w (.move o) ty x sl' := by
    rintro y h1 h2 rfl rfl
    exact ⟨_, w, _, yields_pure (fun _ _ _ _ => rfl), h.see (opView_rel h h1 h2)⟩
  cases o with
  | tmp t =>
    simp only [opV] at hx
    have tk : takeT sl t = (x, sl') → Sound P w0 F0 ts ds w (.move (.tmp t)) ty x sl' := fun e => by
      obtain ⟨φ', hr⟩ := h.take t
      rw [e] at hr
      exact ⟨_, w, φ', yields_pure (fun _ _ _ _ => rfl), hr⟩
    split at hx
    · simp only [Option.some.injEq, Prod.mk.injEq] at hx
      exact tk hx.2
    · simp only [Option.some.injEq, Prod.mk.injEq] at hx
      exact tk hx.2
    · rename_i d e
      simp only [Option.some.injEq, Prod.mk.injEq] at hx
      obtain ⟨-, rfl, rfl⟩ := hx
      exact ⟨_, w, _, yields_pure (fun _ _ _ _ => rfl), h.see (x := .one (.cell (.hd t []))) ⟨rfl, rfl⟩⟩
    · rename_i c hn e
      simp only [Option.some.injEq, Prod.mk.injEq] at hx
      obtain ⟨-, rfl, rfl⟩ := hx
      have hg := gt_rel h t
      rw [e] at hg
      have hno : c.isOwn = false := by
        cases c with
        | own d => exact (hn d rfl).elim
        | _ => rfl
      exact ⟨_, w, _, yields_pure (fun _ _ _ _ => rfl), h.see (x := .one (.cell c)) (CVRel.bare hg hno)⟩
    · rename_i n1 n2 n3 n4
      simp only [Option.some.injEq, Prod.mk.injEq] at hx
      refine see _ rfl ?_ hx.2.1.symm hx.2.2.symm
      unfold view
      generalize gt sl t = y at *
      cases y with
      | one r => cases r with
        | cell c => exact absurd rfl (n4 c)
        | agg cs => exact absurd rfl (n2 cs)
      | tup rs => exact absurd rfl (n1 rs)
      | _ => rfl
  | const v =>
    simp only [opV, Option.map_eq_some_iff, Prod.mk.injEq] at hx
    obtain ⟨y, h1, -, rfl, rfl⟩ := hx
    refine see _ h1 ?_ rfl rfl
    simp only [opView] at h1
    unfold constSV at h1
    split at h1
    · cases h1; rfl
    · cases h1; rfl
    · cases h1; rfl
    · split at h1
      · cases h1; rfl
      · cases h1
    · cases h1
  | func f =>
    simp only [opV, Option.map_eq_some_iff, Prod.mk.injEq] at hx
    obtain ⟨y, h1, -, rfl, rfl⟩ := hx
    simp only [opView, Option.some.injEq] at h1
    subst h1
    exact see _ rfl rfl rfl rfl
  | global g => simp [opV, opView] at hx

theorem assign_sound (h : RelW φ w0 F0 sl fx ts fv w) {ty : TypeId} {o : Operand} {x : SV} {sl' : Sl} (hx : opTake tb ty sl o = some (x, sl')) :
    Sound P w0 F0 ts ds w (.assign o) ty x sl' := by
  obtain ⟨φ', hr⟩ := opTake_rel (ds := ds) h hx
  exact ⟨_, w, φ', yields_pure (fun _ _ _ _ => rfl), hr⟩

theorem sameK_eq {k k' : IntKind} (h : sameK k k' = true) : k = k' := by cases k <;> cases k' <;> simp_all [sameK]

theorem intV_run {op : BinOp} {t : TypeId} {k : IntKind} {a b : Int} {r : Value} {cs : List Prop} (h : intV op k a b = some (cs, r)) (hc : ∀ c ∈ cs, c) :
    (binOp op t (.int k a) (.int k b)).run P w = .ok r w ∧ isSc r = true := by
  cases op <;> simp only [intV, Option.some.injEq, Prod.mk.injEq, reduceCtorEq] at h
  case quo | rem =>
    obtain ⟨rfl, rfl⟩ := h
    have hb := hc _ (List.mem_singleton.2 rfl)
    exact ⟨by simp [binOp, Op.intDiv, hb], rfl⟩
  all_goals
    obtain ⟨rfl, rfl⟩ := h
    refine ⟨?_, rfl⟩
    simp only [binOp, ne_eq, not_true_eq_false, if_false, Op.intArith, Op.intBits, Op.intCmp]
    rfl

theorem binV_run (hT : TbOk P tb) {op : BinOp} {t : TypeId} {u v r : Value} {cs : List Prop} (h : binV op (tb t).k u v = some (cs, r)) (hc : ∀ c ∈ cs, c) :
    (binOp op t u v).run P w = .ok r w ∧ isSc r = true := by
  unfold binV at h
  split at h
  · rename_i k a k' b
    split at h
    · simp only [Option.some.injEq, Prod.mk.injEq] at h
      obtain ⟨rfl, rfl⟩ := h
      have hb := hc _ (List.mem_singleton.2 rfl)
      exact ⟨by simp [binOp, Op.shift, Int.not_lt.2 hb], rfl⟩
    · simp only [Option.some.injEq, Prod.mk.injEq] at h
      obtain ⟨rfl, rfl⟩ := h
      have hb := hc _ (List.mem_singleton.2 rfl)
      exact ⟨by simp [binOp, Op.shift, Int.not_lt.2 hb], rfl⟩
    · split at h
      · rename_i hk
        have hk := sameK_eq hk
        subst hk
        exact intV_run h hc
      · cases h
  · rename_i a b
    have hu : (tb t).k = .bool → ∀ n, (Op.equalIn (n + 1) t (.bool a) (.bool b)).run P w = .ok (decide (a = b)) w := fun hk n => by
      have := tiOf hT hk
      have hu : P.underlying t = some .bool := this.2.2.2.2.1
      simp only [Op.equalIn, Sem.run_bind, run_underlying hu, Result.andThen_ok]
      cases a <;> cases b <;> rfl
    split at h
    · rename_i hk
      cases h
      refine ⟨?_, rfl⟩
      simp only [binOp, Op.equal, Op.maxDepth, Sem.run_bind, hu hk 9999, Result.andThen_ok]
      rfl
    · rename_i hk
      cases h
      refine ⟨?_, rfl⟩
      simp only [binOp, Op.equal, Op.maxDepth, Sem.run_bind, hu hk 9999, Result.andThen_ok]
      rfl
    · cases h
  · rename_i a b
    have he : (a.toList == b.toList) = decide (a.toList = b.toList) := by rw [Bool.eq_iff_iff]; simp
    split at h
    · cases h; exact ⟨by simp [binOp, Op.stringOp, he], rfl⟩
    · cases h; exact ⟨by simp [binOp, Op.stringOp, he], rfl⟩
    · cases h
      have hb := hc _ (List.mem_singleton.2 rfl)
      exact ⟨by simp only [binOp, Op.stringOp]; rw [if_neg (by show ¬ ((a.size + b.size : Nat) : Int) > 9223372036854775807; omega)]; rfl, rfl⟩
    · cases h
  · cases h

theorem unV_run {op : UnOp} {u r : Value} (h : unV op u = some r) : (Op.unary op u).run P w = .ok r w ∧ isSc r = true := by
  unfold unV at h
  split at h
  · split at h
    · cases h; exact ⟨rfl, rfl⟩
    · cases h
  · split at h
    · cases h; exact ⟨rfl, rfl⟩
    · cases h
  · cases h

theorem bin_sound (hT : TbOk P tb) (h : RelW φ w0 F0 sl fx ts fv w) {op : BinOp} {xt yt ty : TypeId} {x y : Operand} {u v r : Value} {cs : List Prop}
    (hx : opView tb ty sl x = some (.one (.cell (.sc u)))) (hy : opView tb ty sl y = some (.one (.cell (.sc v)))) (hb : binV op (tb xt).k u v = some (cs, r)) (hc : ∀ c ∈ cs, c) :
    Sound P w0 F0 ts ds w (.binOp op xt x y yt) ty (.one (.cell (.sc r))) sl := by
  obtain ⟨e1, s1⟩ := opView_sc (ds := ds) h hx
  obtain ⟨e2, s2⟩ := opView_sc (ds := ds) h hy
  obtain ⟨g1, g2⟩ := binV_run (w := w) hT hb hc
  have hg : (eqGuard op xt x y u v).run P w = .ok () w := by
    unfold eqGuard
    cases op <;> first | rfl | (cases u <;> first | rfl | (cases v <;> first | rfl | simp [isSc] at s1))
  refine ⟨r, w, _, fun dst pos after guard => .inl ?_, h.see (x := .one (.cell (.sc r))) ⟨rfl, g2, rfl⟩⟩
  simp only [execOp, e1, e2, Sem.run_bind, hg, g1, Result.andThen_ok]
  rfl

theorem un_sound (h : RelW φ w0 F0 sl fx ts fv w) {op : UnOp} {xt ty : TypeId} {x : Operand} {u r : Value}
    (hx : opView tb ty sl x = some (.one (.cell (.sc u)))) (hb : unV op u = some r) : Sound P w0 F0 ts ds w (.unOp op xt x) ty (.one (.cell (.sc r))) sl := by
  obtain ⟨e1, s1⟩ := opView_sc (ds := ds) h hx
  obtain ⟨g1, g2⟩ := unV_run (P := P) (w := w) hb
  exact ⟨r, w, _, yields_val (s := Op.unary op (Act.eval ⟨ts, ds⟩ x)) (fun _ _ _ _ => rfl) (by rw [e1]; exact g1), h.see (x := .one (.cell (.sc r))) ⟨rfl, g2, rfl⟩⟩

end

end Go.Proofs.Ytckcehmggdnliaa.DL
