/- The library: parts L14c to L16a. -/
import Derived.Test.YtlffmhhdgedddaaL14b
import Derived.Laws.IdiomCopy
import Derived.Orders
import Derived.Laws.StructEq
/- The data level, part 14c: copy; what is lent to be written. -/
namespace Go.Proofs.Ytlffmhhdgedddaa.DL
open Go Go.RowKit

section
variable {P : Program} {C : Cfg} {tb : Tb} {φ : Option Nat → List Nat} {w0 w w' : World} {F0 : List Nat} {sl : Sl} {fx : SV} {ts : Array Value} {fv : Value} {ds : List Deferred}

def ofV : DV → CV
  | .val v => .sc v
  | .sl _ _ => .un
theorem ofV_map {es : List DV} (h : AllVal es) : (es.map ofV).map CV.toDV = es := by
  rw [List.map_map]
  refine (List.map_congr_left fun d hd => ?_).trans (List.map_id _)
  have := h d hd
  cases d with
  | val v => rfl
  | sl _ _ => exact this.elim
theorem AllVal.take {es : List DV} (h : AllVal es) (k : Nat) : AllVal (es.take k) := fun d hd => h d (List.mem_of_mem_take hd)
theorem ofV_fit {es : List DV} (h : AllVal es) : (es.map ofV).all CV.fit = true := by
  rw [List.all_eq_true]
  intro c hc
  obtain ⟨d, hd, rfl⟩ := List.mem_map.1 hc
  have := h d hd
  cases d with
  | val v => rfl
  | sl _ _ => exact this.elim
theorem ofV_rel {f : Nat → Value} {o : Bool} {vs : List Value} {es : List DV} {bs : List Nat} (h : Rd o w vs es bs) (ha : AllVal es) : CVs w φ f vs (es.map ofV) [] := by
  induction h with
  | nil => exact .nil
  | @sc v vs ds bs hs _ ih =>
    have := CVs.cons (w := w) (φ := φ) (f := f) (v := v) (c := .sc v) (ψ := []) ⟨rfl, hs, rfl⟩ (ih fun d hd => ha d (List.mem_cons_of_mem _ hd))
    simpa [ofV] using this
  | e0 _ _ _ => exact (ha _ (List.mem_cons_self ..)).elim
  | sl _ _ _ _ _ _ _ _ => exact (ha _ (List.mem_cons_self ..)).elim
theorem modP_id {g : List DV → List DV} (hg : ∀ es, g es = es) : ∀ (p : List Nat) (d : DV), d.modP g p = d
  | [], .val _ => rfl
  | _ :: _, .val _ => rfl
  | [], .sl sz es => by simp only [DV.modP, hg]
  | j :: p, .sl sz es => by
    simp only [DV.modP, modP_id hg p]
    congr 1
    apply List.ext_getElem
    · simp
    · intro i h1 h2
      by_cases e : i = j
      · subst e; simp [List.getD, h2]
      · simp [List.getElem_set_ne (Ne.symm e)]

theorem setDs_eq {x : SV} {q : List Nat} {j : Nat} {new : List DV} (ha : AllVal new) {c : List Prop} {n : Nat} (hok : setDok x q j n = some c) : setDs x q j new = setCs x q j (new.map ofV) := by
  unfold setDok at hok
  split at hok
  · rename_i cs i q
    simp only [setDs, setCs, ofV_map ha]
    rfl
  · rename_i d q
    cases q <;> simp only [setDs, setCs, ofV_map ha] <;> rfl
  · cases hok
theorem setDok_q {x : SV} {q : List Nat} {j n : Nat} {c : List Prop} (h : setDok x q j n = some c) : q ≠ [] ∨ isBox x = false := by
  unfold setDok at h
  split at h
  · exact .inl (by simp)
  · exact .inr rfl
  · cases h
theorem setDok_eq {x : SV} {q : List Nat} {j : Nat} {new : List CV} {c : List Prop} (hf : new.all CV.fit = true) (hok : setDok x q j new.length = some c) : setOk x q j new.length new = some c := by
  unfold setDok at hok
  split at hok
  · rename_i cs i q
    simp only [setOk]
    split at hok
    · rename_i hd
      rw [hd]
      simp only [hf, if_true]
      exact hok
    · cases hok
  · rename_i d q
    cases q <;> (simp only [setOk]; rw [if_pos hf]; exact hok)
  · cases hok
theorem setDs_nil {x : SV} {q : List Nat} {j n : Nat} {c : List Prop} (hok : setDok x q j n = some c) : setDs x q j [] = x := by
  unfold setDok at hok
  split at hok
  · rename_i cs i q
    split at hok
    · rename_i d hd
      simp only [setDs, hd]
      congr 1
      rw [modP_id (g := fun es => overlay es j []) (fun es => rfl)]
      have hi : i < cs.length := by
        refine Nat.lt_of_not_le fun hle => ?_
        simp [List.getD, List.getElem?_eq_none hle] at hd
      apply List.ext_getElem
      · simp
      · intro k h1 h2
        by_cases e : k = i
        · subst e; simp [List.getD, h2] at hd ⊢; exact hd.symm
        · simp [List.getElem_set_ne (Ne.symm e)]
    · cases hok
  · rename_i d _
    simp only [setDs]
    rw [modP_id (g := fun es => overlay es j []) (fun es => rfl)]
  · cases hok

/-- A slot is left as it is; what hangs on it may be forgotten, or seen anew. -/
theorem RelW.rekeep (h : RelW φ w0 F0 sl fx ts fv w) {s : Nat} (hs : s < sl.length) {keep : SV → SV} (hk : ∀ t y, sl[t]? = some y → SlotRel w (setN φ []) (valAt ts) (valAt ts t) (φ (some t)) (keep y)) {v : Value} {x : SV} (hx : SlotRel w (setN φ []) (valAt ts) v [] x) :
    RelW (setN φ []) w0 F0 ((sl.map keep).set s (gt sl s)) x ts v w := by
  have h1 := h.see (v := undef) (x := .dead) trivial
  have e : setN (setN φ []) [] = setN φ [] := by funext t; unfold setN; split <;> rfl
  have h2 : RelW (setN φ []) w0 F0 sl x ts v w := by
    have := h1.refly (Ext.refl _ _) (v := v) (ψ := []) (x := x) .nil (fun b hb => by cases hb) (by rw [e]; exact hx)
    rwa [e] at this
  refine ⟨by simp [h2.len], fun t y hy => ?_, h2.nd, h2.dj, h2.lt, h2.ext⟩
  cases t with
  | none => exact h2.slot none y hy
  | some t =>
    simp only [sget] at hy
    by_cases e : t = s
    · subst e
      rw [List.getElem?_set_self (by simpa using hs)] at hy
      cases hy
      exact gt_rel h2 t
    · rw [List.getElem?_set_ne (Ne.symm e), List.getElem?_map] at hy
      cases hz : sl[t]? with
      | none => simp [hz] at hy
      | some z =>
        simp only [hz, Option.map_some, Option.some.injEq] at hy
        subst hy
        have : setN φ [] (some t) = φ (some t) := by simp [setN]
        rw [this]
        exact hk t z hz

theorem keepC_weak {f : Nat → Value} {v : Value} {ψ : List Nat} {c : CV} {bx : Bool} {s : Nat} {q : List Nat} {j n : Nat} (h : CVRel w φ f v ψ c) : CVRel w φ f v ψ (keepC bx s q j n c) := by
  unfold keepC
  split
  · have h := hdOf_rel h
    generalize hdOf c = c at h ⊢
    split
    · exact h
    · split
      · split
        · exact h
        · exact trivial
      · exact h
      · exact trivial
    · exact trivial
  · exact h
theorem keepD_weak {f : Nat → Value} {v : Value} {ψ : List Nat} {c : CV} {bx : Bool} {s : Nat} {q : List Nat} {j n : Nat} (h : CVRel w φ f v ψ c) : CVRel w φ f v ψ (keepD bx s q j n c) := by
  unfold keepD
  split
  · split
    · split
      · split
        · exact h
        · exact trivial
      · exact trivial
    · exact h
  · exact keepC_weak h
theorem keepX_same (h : RelW φ w0 F0 sl fx ts fv w) {s : Nat} {q : List Nat} {j n : Nat} : ∀ t y, sl[t]? = some y → SlotRel w (setN φ []) (valAt ts) (valAt ts t) (φ (some t)) (keepX (gt sl s) s q j n y) := by
  intro t y hy
  have h1 := h.see (v := undef) (x := .dead) trivial
  have hrel := h1.slot (some t) y hy
  have et : setN φ [] (some t) = φ (some t) := by simp [setN]
  simp only [vget] at hrel
  rw [et] at hrel
  unfold keepX
  split
  · exact keepD_weak (c := _) hrel
  · obtain ⟨vs, g1, g2⟩ := hrel
    refine ⟨vs, g1, ?_⟩
    have go : ∀ (vs : List Value) (cs : List CV) (ψ : List Nat), CVs w (setN φ []) (valAt ts) vs cs ψ → CVs w (setN φ []) (valAt ts) vs (cs.map (keepC (isBox (gt sl s)) s q j n)) ψ := by
      intro vs cs ψ hcv
      induction hcv with
      | nil => exact .nil
      | cons g1 _ ih => exact .cons (keepC_weak g1) ih
    exact go _ _ _ g2
  · unfold keepW
    split
    · split
      · exact hrel
      · split
        · split
          · exact hrel
          · exact trivial
        · exact hrel
        · exact trivial
      · exact trivial
    · exact hrel

theorem slot_lt {s : Nat} {x : SV} (h : gt sl s = x) (hx : x ≠ .dead) : s < sl.length := by
  refine Nat.lt_of_not_le fun hle => hx ?_
  rw [← h]
  simp [gt, List.getD, List.getElem?_eq_none hle]

theorem cut_view {x : SV} {s : Nat} {p : List Nat} {lo : Nat} {es : List DV} {v : Value} {g : Nat → Value} (hc : cutOf x = some (s, p, lo, es)) (h : SlotRel w φ g v [] x) :
    ∃ a cap a' cap', (∃ n, hdr w (φ (some s)) (g s) p = some (.slice a n cap)) ∧ v = .slice a' es.length cap' ∧ (0 < es.length → ∃ b o, a = some ⟨b, o, none⟩ ∧ a' = some ⟨b, o + lo, none⟩) := by
  unfold cutOf at hc
  split at hc
  · cases hc
    obtain ⟨-, a, n, cap, a', n', cap', bs, h1, rfl, h3, h4, -⟩ := h
    obtain ⟨a2, n2, cap2, us, bs1, e1, -, -, -, -, e6⟩ := h4.elems
    cases e1
    have : es.length = n' := by simpa [DV.n] using e6 (by omega)
    rw [this]
    exact ⟨a, cap, a', cap', ⟨n, h1⟩, rfl, h3⟩
  · cases hc
    obtain ⟨-, h1, bs, h4, -⟩ := h
    obtain ⟨a2, n2, cap2, us, bs1, rfl, -, -, -, e5, e6⟩ := h4.elems
    have : es.length = n2 := by simpa [DV.n] using e6 (by omega)
    rw [this]
    refine ⟨a2, cap2, a2, cap2, ⟨n2, h1⟩, rfl, fun hpos => ?_⟩
    rcases e5 with e5 | ⟨b, off, e5, -⟩
    · omega
    · exact ⟨b, off, e5, by simpa using e5⟩
  · cases hc

theorem cut_viewZ {x : SV} {s : Nat} {p : List Nat} {lo sz : Nat} {es : List DV} {v : Value} {g : Nat → Value} (hc : cutOfZ x = some (s, p, lo, sz, es)) (h0 : 0 < sz) (h : SlotRel w φ g v [] x) :
    ∃ a cap a' cap', (∃ n, hdr w (φ (some s)) (g s) p = some (.slice a n cap)) ∧ v = .slice a' (DV.sl sz es).n cap' ∧ es.length = (DV.sl sz es).n * sz ∧ (0 < (DV.sl sz es).n → ∃ b o, a = some ⟨b, o, none⟩ ∧ a' = some ⟨b, o + lo, none⟩) := by
  unfold cutOfZ at hc
  split at hc
  · cases hc
    obtain ⟨-, a, n, cap, a', n', cap', bs, h1, rfl, h3, h4, -⟩ := h
    obtain ⟨a2, n2, cap2, us, bs1, e1, e2, e3, -, -, e6⟩ := h4.elems
    cases e1
    have : (DV.sl sz es).n = n' := e6 h0
    rw [this]
    exact ⟨a, cap, a', cap', ⟨n, h1⟩, rfl, by rw [← e3.length, e2], h3⟩
  · cases hc
    obtain ⟨-, h1, bs, h4, -⟩ := h
    obtain ⟨a2, n2, cap2, us, bs1, rfl, e2, e3, -, e5, e6⟩ := h4.elems
    have : (DV.sl sz es).n = n2 := e6 h0
    rw [this]
    refine ⟨a2, cap2, a2, cap2, ⟨n2, h1⟩, rfl, by rw [← e3.length, e2], fun hpos => ?_⟩
    rcases e5 with e5 | ⟨b, off, e5, -⟩
    · omega
    · exact ⟨b, off, e5, by simpa using e5⟩
  · cases hc
theorem run_copyZ (w : World) (dT sT ty elem : TypeId) (b o dLen dCap : Nat) (a : Addr) (sLen sCap k : Nat) (cs : List Value)
    (hu : P.underlying dT = some (.slice elem)) (hs : (P.info? elem).map (·.size) = some k) (hn : cs.length = Nat.min sLen dLen * k)
    (hsrc : ∀ j v, cs[j]? = some v → w.cell? (a.add j) = some v) (hc : ∀ j, j < cs.length → (w.cell? ⟨b, o + j, none⟩).isSome = true) (hf : ∀ j, j < cs.length → w.frozen? ⟨b, o + j, none⟩ = false) (h1 : ∀ v ∈ cs, v.oneCell' = true) :
    (Builtin.copy_ #[dT, sT] ty #[.slice (some ⟨b, o, none⟩) dLen dCap, .slice (some a) sLen sCap]).run P w = .ok (goInt (Nat.min sLen dLen)) (w.setCells b o cs) := by
  have hl := run_loadCells_list (P := P) w a cs hsrc
  have hst := run_storeCells_cells (P := P) b o cs 0 w (by simpa using hc) (by simpa using hf) h1
  cases hq : P.info? elem with
  | none => simp [hq] at hs
  | some i =>
    have hi : i.size = k := by simpa [hq] using hs
    simp [Builtin.copy_, run_underlying hu, Builtin.lenOf, Builtin.firstCells, sizeOf, typeInfo, hq, hi, ← hn, hl, hst]
theorem run_copyZ_none (w : World) (dT sT ty elem : TypeId) (d a : Option Addr) (dLen dCap sLen sCap k : Nat) (hu : P.underlying dT = some (.slice elem)) (hs : (P.info? elem).map (·.size) = some k) (hn : Nat.min sLen dLen = 0) :
    (Builtin.copy_ #[dT, sT] ty #[.slice d dLen dCap, .slice a sLen sCap]).run P w = .ok (goInt 0) w := by
  cases hq : P.info? elem with
  | none => simp [hq] at hs
  | some i =>
    have hl : ∀ (x : Addr), (loadCells x 0).run P w = .ok #[] w := fun x => by simpa using run_loadCells_list (P := P) w x [] (by simp)
    cases d <;> cases a <;> simp [Builtin.copy_, run_underlying hu, Builtin.lenOf, Builtin.firstCells, sizeOf, typeInfo, hq, hn, storeCells, hl]
theorem copyZ_sound (hT : TbOk P tb) (h : RelW φ w0 F0 sl fx ts fv w) {t t' ty e : TypeId} {x y : Operand} {cs : List Prop} {v : SV} {sl' : Sl} (hk : (tb t).k = .slice e) (hx : cpyZ tb sl t e x y = some (cs, v, sl')) (hc : ∀ p ∈ cs, p) :
    ∃ u w' φ', (Builtin.copy_ #[t, t'] ty #[Act.eval ⟨ts, ds⟩ x, Act.eval ⟨ts, ds⟩ y]).run P w = .ok u w' ∧ RelW φ' w0 F0 sl' v ts u w' := by
  unfold cpyZ at hx
  split at hx
  · rename_i s p lo sz es sz2 es2 hcut hsrc
    split at hx
    · rename_i hsz
      split at hx
      · rename_i c hok
        simp only [Option.some.injEq, Prod.mk.injEq] at hx
        obtain ⟨rfl, rfl, rfl⟩ := hx
        have ha : AllVal es2 := hc _ (List.mem_cons_self ..)
        have hc' : ∀ p ∈ c, p := fun p hp => hc p (List.mem_cons_of_mem _ hp)
        simp only [Bool.and_eq_true, beq_iff_eq, Nat.blt_eq] at hsz
        obtain ⟨z1, rfl, z3⟩ := hsz
        have hz0 : 0 < sz2 := by omega
        have hke : (tb e).k ≠ .other := not_other hT (by omega)
        obtain ⟨ji, zi, i1, i2, -⟩ := info_of hT hke
        have hu := (under_of hT).2.1 e hk
        have hsi : (P.info? e).map (·.size) = some sz2 := by rw [i1]; simp [i2, z1]
        simp only [Option.bind_eq_some_iff] at hcut hsrc
        obtain ⟨xv, hxv, hcut⟩ := hcut
        obtain ⟨yv, hyv, hsrc⟩ := hsrc
        have hfx : flat xv = true := by
          unfold cutOfZ at hcut
          split at hcut <;> first | rfl | cases hcut
        have hfy : flat yv = true := by
          unfold sliceD at hsrc
          split at hsrc <;> first | rfl | cases hsrc
        obtain ⟨a, cap, a', cap', ⟨n0, h1⟩, h2, hlen, h3⟩ := cut_viewZ hcut hz0 (opView_rel (ds := ds) h hxv hfx)
        obtain ⟨o, bs, h4⟩ := sliceD_rel' hsrc (opView_rel (ds := ds) h hyv hfy)
        obtain ⟨a2, n2, cap2, us2, bs3, q1, q2, q3, -, q5, q6⟩ := h4.elems
        have hn2 : (DV.sl sz2 es2).n = n2 := q6 hz0
        have hus : us2.length = es2.length := q3.length
        have hs : s < sl.length := by
          refine slot_lt rfl fun hd => ?_
          rw [hd] at hok
          simp [setDok] at hok
        rw [h2, q1]
        rw [hn2] at hok ⊢
        generalize (DV.sl sz2 es).n = n1 at *
        by_cases h0 : min n1 n2 = 0
        · have hrun := run_copyZ_none (P := P) w t t' ty e a' a2 n1 cap' n2 cap2 sz2 hu hsi ((Nat.min_comm n2 n1).trans h0)
          refine ⟨goInt 0, w, setN φ [], hrun, ?_⟩
          rw [h0, Nat.zero_mul] at hok ⊢
          simp only [List.take_zero, setDs_nil hok]
          exact h.rekeep hs (keepX_same h) ⟨rfl, rfl, rfl⟩
        · have hpos : 0 < n1 := by omega
          obtain ⟨b, o0, rfl, rfl⟩ := h3 hpos
          have hm2 : min n1 n2 * sz2 ≤ es2.length := by rw [← hus, q2]; exact Nat.mul_le_mul_right _ (Nat.min_le_right _ _)
          have hm0 : 0 < min n1 n2 * sz2 := Nat.mul_pos (by omega) hz0
          generalize hm : min n1 n2 * sz2 = m at *
          have hl : ((es2.take m).map ofV).length = m := by simp; omega
          have hok2 := setDok_eq (new := (es2.take m).map ofV) (ofV_fit (ha.take _)) (by rw [hl]; exact hok)
          obtain ⟨b1, b2, k1, k2, -⟩ := q3.split m
          have h5 := h.see (v := undef) (x := .dead) trivial
          have hcells : CVs w (setN φ []) (valAt ts) (us2.take m) ((es2.take m).map ofV) (setN φ [] none) := ofV_rel k1 (ha.take _)
          obtain ⟨there, -, φ', hrel⟩ := store_rel h5 (q := p) (j := lo) (b := b) (o := o0) (by simpa [setN] using h1) rfl hcells (by rw [hl]; omega) hok2 hc' (by rw [refsX_q (setDok_q hok)]; simp)
          have hul : (us2.take m).length = m := by rw [List.length_take, hus]; omega
          rcases q5 with q5 | ⟨b5, off5, rfl, q7, -⟩
          · omega
          have hrun := run_copyZ (P := P) w t t' ty e b (o0 + lo) n1 cap' ⟨b5, off5, none⟩ n2 cap2 sz2 (us2.take m) hu hsi (by rw [hul, ← hm]; exact congrArg (· * sz2) (Nat.min_comm n1 n2))
            (fun k u hk => by
              rw [List.getElem?_take] at hk
              split at hk
              · rw [Addr_add]; exact q7 k u hk
              · cases hk) (fun k hk => (there k hk).1) (fun k hk => (there k hk).2) (fun u hu => q3.ones u (List.mem_of_mem_take hu))
          rw [hl, ← setDs_eq (ha.take _) hok] at hrel
          rw [show Nat.min n2 n1 = min n1 n2 from Nat.min_comm n2 n1] at hrun
          exact ⟨_, _, _, hrun, hrel.see (x := .one (.cell (.sc _))) ⟨rfl, rfl, rfl⟩⟩
      · cases hx
    · cases hx
  · cases hx
theorem copy_sound (hT : TbOk P tb) (h : RelW φ w0 F0 sl fx ts fv w) {t t' ty : TypeId} {x y : Operand} {cs : List Prop} {v : SV} {sl' : Sl} (hx : cpyV tb sl t x y = some (cs, v, sl')) (hc : ∀ p ∈ cs, p) :
    ∃ u w' φ', (Builtin.copy_ #[t, t'] ty #[Act.eval ⟨ts, ds⟩ x, Act.eval ⟨ts, ds⟩ y]).run P w = .ok u w' ∧ RelW φ' w0 F0 sl' v ts u w' := by
  unfold cpyV at hx
  split at hx
  · rename_i e s p lo es es2 hk hcut hsrc
    split at hx
    · rename_i hsz
      split at hx
      · rename_i c hok
        simp only [Option.some.injEq, Prod.mk.injEq] at hx
        obtain ⟨rfl, rfl, rfl⟩ := hx
        have ha : AllVal es2 := hc _ (List.mem_cons_self ..)
        have hc' : ∀ p ∈ c, p := fun p hp => hc p (List.mem_cons_of_mem _ hp)
        have hsz : (tb e).size = 1 := by simpa using hsz
        have hke : (tb e).k ≠ .other := not_other hT (by omega)
        obtain ⟨ji, zi, i1, i2, -⟩ := info_of hT hke
        have hu := (under_of hT).2.1 e hk
        have hsi : (P.info? e).map (·.size) = some 1 := by rw [i1]; simp [i2, hsz]
        simp only [Option.bind_eq_some_iff] at hcut hsrc
        obtain ⟨xv, hxv, hcut⟩ := hcut
        obtain ⟨yv, hyv, hsrc⟩ := hsrc
        have hfx : flat xv = true := by
          unfold cutOf at hcut
          split at hcut <;> first | rfl | cases hcut
        have hfy : flat yv = true := by
          unfold sliceD at hsrc
          split at hsrc <;> first | rfl | cases hsrc
        obtain ⟨a, cap, a', cap', ⟨n0, h1⟩, h2, h3⟩ := cut_view hcut (opView_rel (ds := ds) h hxv hfx)
        obtain ⟨o, bs, h4⟩ := sliceD_rel' hsrc (opView_rel (ds := ds) h hyv hfy)
        obtain ⟨a2, n2, cap2, us2, bs3, q1, q2, q3, -, q5, q6⟩ := h4.elems
        have hn2 : es2.length = n2 := by simpa [DV.n] using q6 (by omega)
        have hus : us2.length = es2.length := q3.length
        have hs : s < sl.length := by
          refine slot_lt rfl fun hd => ?_
          rw [hd] at hok
          simp [setDok] at hok
        rw [h2, q1]
        by_cases h0 : min es.length es2.length = 0
        · have hrun := run_copy_none (P := P) w t t' ty e a' a2 es.length cap' n2 cap2 hu hsi (by rw [← hn2]; exact (Nat.min_comm es2.length es.length).trans h0)
          refine ⟨goInt 0, w, setN φ [], hrun, ?_⟩
          rw [h0] at hok ⊢
          simp only [List.take_zero, setDs_nil hok]
          exact h.rekeep hs (keepX_same h) ⟨rfl, rfl, rfl⟩
        · have hpos : 0 < es.length := by omega
          obtain ⟨b, o0, rfl, rfl⟩ := h3 hpos
          have hl : ((es2.take (min es.length es2.length)).map ofV).length = min es.length es2.length := by simp
          have hok2 := setDok_eq (new := (es2.take (min es.length es2.length)).map ofV) (ofV_fit (ha.take _)) (by rw [hl]; exact hok)
          obtain ⟨b1, b2, k1, k2, -⟩ := q3.split (min es.length es2.length)
          have h5 := h.see (v := undef) (x := .dead) trivial
          have hcells : CVs w (setN φ []) (valAt ts) (us2.take (min es.length es2.length)) ((es2.take (min es.length es2.length)).map ofV) (setN φ [] none) := ofV_rel k1 (ha.take _)
          obtain ⟨there, -, φ', hrel⟩ := store_rel h5 (q := p) (j := lo) (b := b) (o := o0) (by simpa [setN] using h1) rfl hcells (by rw [hl]; omega) hok2 hc' (by rw [refsX_q (setDok_q hok)]; simp)
          have hul : (us2.take (min es.length es2.length)).length = min es.length es2.length := by rw [List.length_take, hus]; omega
          rcases q5 with q5 | ⟨b5, off5, rfl, q7, -⟩
          · omega
          have hrun := run_copy_cells (P := P) w t t' ty e b (o0 + lo) es.length cap' ⟨b5, off5, none⟩ n2 cap2 (us2.take (min es.length es2.length)) hu hsi (by rw [hul, ← hn2]; exact Nat.min_comm es.length es2.length)
            (fun k u hk => by
              rw [List.getElem?_take] at hk
              split at hk
              · rw [Addr_add]; exact q7 k u hk
              · cases hk) (fun k hk => (there k hk).1) (fun k hk => (there k hk).2) (fun u hu => q3.ones u (List.mem_of_mem_take hu))
          rw [hul] at hrun
          rw [hl, ← setDs_eq (ha.take _) hok] at hrel
          exact ⟨_, _, _, hrun, hrel.see (x := .one (.cell (.sc _))) ⟨rfl, rfl, rfl⟩⟩
      · cases hx
    · cases hx
  · rename_i hk _
    exact copyZ_sound hT h hk hx hc
  · cases hx

theorem Rd.rep {z : Value} (hz : isSc z = true) : ∀ n, Rd false w (List.replicate n z) (List.replicate n (.val z)) []
  | 0 => .nil
  | n + 1 => .sc hz (Rd.rep hz n)
theorem clear_sound (hT : TbOk P tb) (h : RelW φ w0 F0 sl fx ts fv w) {t ty : TypeId} {x : Operand} {cs : List Prop} {v : SV} {sl' : Sl} (hx : clrV tb sl t x = some (cs, v, sl')) (hc : ∀ p ∈ cs, p) :
    ∃ u w' φ', (Builtin.clear_ #[t] ty #[Act.eval ⟨ts, ds⟩ x]).run P w = .ok u w' ∧ RelW φ' w0 F0 sl' v ts u w' := by
  unfold clrV at hx
  split at hx
  · rename_i e s p lo es hk hcut
    split at hx
    · rename_i z hz
      split at hx
      · rename_i hsz
        split at hx
        · rename_i c hok
          simp only [Option.some.injEq, Prod.mk.injEq] at hx
          obtain ⟨rfl, rfl, rfl⟩ := hx
          have hsz : (tb e).size = 1 := by simpa using hsz
          have hke : (tb e).k ≠ .other := not_other hT (by omega)
          obtain ⟨ji, zi, i1, i2, i3, i4, -⟩ := info_of hT hke
          have hu := (under_of hT).2.1 e hk
          have hzo : isSc z = true := by
            have := (hT e).1
            unfold TIok at this
            split at this
            · rename_i hh; exact absurd hh hke
            · have := this.2.1
              rw [hz] at this
              simpa [zeroOk] using this
          have hzc : zi.cells = #[z] := by
            apply Array.ext'
            rw [i4, hz]
            rfl
          simp only [Option.bind_eq_some_iff] at hcut
          obtain ⟨xv, hxv, hcut⟩ := hcut
          have hfx : flat xv = true := by
            unfold cutOf at hcut
            split at hcut <;> first | rfl | cases hcut
          obtain ⟨a, cap, a', cap', ⟨n0, h1⟩, h2, h3⟩ := cut_view hcut (opView_rel (ds := ds) h hxv hfx)
          have hs : s < sl.length := by
            refine slot_lt rfl fun hd => ?_
            rw [hd] at hok
            simp [setDok] at hok
          have ha : AllVal (List.replicate es.length (.val z)) := fun d hd => by
            rw [(List.mem_replicate.1 hd).2]; exact trivial
          rw [h2]
          by_cases h0 : es.length = 0
          · refine ⟨.tuple #[], w, setN φ [], ?_, ?_⟩
            · rw [h0]
              cases a' <;> simp [Builtin.clear_, run_underlying hu]
            · rw [h0] at hok ⊢
              simp only [List.replicate_zero, setDs_nil hok]
              exact h.rekeep hs (keepX_same h) ⟨#[], rfl, .nil⟩
          · have hpos : 0 < es.length := by omega
            obtain ⟨b, o0, rfl, rfl⟩ := h3 hpos
            have hl : ((List.replicate es.length (DV.val z)).map ofV).length = es.length := by simp
            have hok2 := setDok_eq (new := (List.replicate es.length (DV.val z)).map ofV) (ofV_fit ha) (by rw [hl]; exact hok)
            have k1 : Rd false w (List.replicate es.length z) (List.replicate es.length (.val z)) [] := Rd.rep hzo _
            have h5 := h.see (v := undef) (x := .dead) trivial
            have hcells : CVs w (setN φ []) (valAt ts) (List.replicate es.length z) ((List.replicate es.length (DV.val z)).map ofV) (setN φ [] none) := ofV_rel k1 ha
            obtain ⟨there, -, φ', hrel⟩ := store_rel h5 (q := p) (j := lo) (b := b) (o := o0) (by simpa [setN] using h1) rfl hcells (by rw [hl]; omega) hok2 hc (by rw [refsX_q (setDok_q hok)]; simp)
            have hul : (List.replicate es.length z).length = es.length := by simp
            rw [hul] at there
            have hst := run_storeCells_cells (P := P) b (o0 + lo) (List.replicate es.length z) 0 w (fun k hk => (there k (by simpa using hk)).1) (fun k hk => (there k (by simpa using hk)).2) (fun u hu => k1.ones u hu)
            have hzl : (Builtin.zeroCells zi.cells es.length).toList = List.replicate es.length z := by
              rw [hzc]
              apply List.ext_getElem
              · simp [Builtin.zeroCells]
              · intro k g1 g2
                simp [Builtin.zeroCells, Nat.mod_one]
            rw [hl, ← setDs_eq ha hok] at hrel
            refine ⟨.tuple #[], _, _, ?_, hrel.see (x := .tup []) ⟨#[], rfl, .nil⟩⟩
            have hrun : (storeCells ⟨b, o0 + lo, none⟩ (Builtin.zeroCells zi.cells es.length).toList).run P w = .ok () (w.setCells b (o0 + lo) (List.replicate es.length z)) := by rw [hzl]; exact hst
            obtain ⟨m, hm⟩ : ∃ m, es.length = m + 1 := ⟨es.length - 1, by omega⟩
            rw [hm] at hrun ⊢
            simp [Builtin.clear_, run_underlying hu, run_zeroValue i1 i3, hrun]
        · cases hx
      · cases hx
    · cases hx
  · cases hx
end
end Go.Proofs.Ytlffmhhdgedddaa.DL

/- The data level, part 14d: what is lent to be written. -/
namespace Go.Proofs.Ytlffmhhdgedddaa.DL
open Go Go.RowKit

section
variable {P : Program} {C : Cfg} {tb : Tb} {φ : Option Nat → List Nat} {w0 w w' : World} {F0 : List Nat} {sl : Sl} {fx : SV} {ts : Array Value} {fv : Value} {ds : List Deferred}

theorem setP_nil (d x : DV) : d.setP x [] = x := by cases d <;> rfl

/-- What lies at the end of a way, and all else; when the one has been written, and the other not. -/
theorem Rd.focus {F : List Nat} : ∀ (p : List Nat) {v : Value} {d : DV} {bs : List Nat}, Rd true w [v] [d] bs → (∀ b ∈ bs, b ∈ F) → d.InP p →
    ∃ u χ rest, hdr w F v p = some u ∧ Rd true w [u] [d.getP p] χ ∧ bs.Perm (χ ++ rest) ∧
      ∀ (w' : World) (χ' : List Nat) (d' : DV), w.heap.size ≤ w'.heap.size → (∀ b ∈ rest, w'.heap[b]? = w.heap[b]?) → Rd true w' [u] [d'] χ' → ∃ bs', Rd true w' [v] [d.setP d' p] bs' ∧ bs'.Perm (χ' ++ rest)
  | [], v, d, bs, h, _, _ => ⟨v, bs, [], rfl, h, by simp, fun w' χ' d' _ _ h' => ⟨χ', by rw [setP_nil]; exact h', by simp⟩⟩
  | j :: p, v, d, bs, h, hF, hp => by
    obtain ⟨hj, hp⟩ := hp
    cases d with
    | val u => simp [DV.es] at hj
    | sl sz es =>
      simp only [DV.es] at hj hp
      rcases h.one with ⟨a, cap, rfl, rfl, _⟩ | ⟨b, off, n, cap, us, bs1, rfl, rfl, h1, h2, h3, h4, h5, h6, h7⟩
      · simp at hj
      · have hju : j < us.length := by rw [h7.length]; exact hj
        obtain ⟨d', hd', b1, b2, b3, g1, hr, g3, rfl⟩ := h7.get (j := j) (v := us[j]) (List.getElem?_eq_getElem hju)
        have hd : es.getD j dfl = d' := by simp [List.getD, hd']
        rw [hd] at hp
        obtain ⟨u, χ, rest, k1, k2, k3, k4⟩ := Rd.focus p hr (fun b hb => hF b (by simp [hb])) hp
        refine ⟨u, χ, b :: (b1 ++ (rest ++ b3)), ?_, ?_, ?_, fun w' χ' d2 hs hrest h' => ?_⟩
        · simp only [hdr, locOf]
          rw [if_pos (hF b (by simp)), h1 j us[j] (List.getElem?_eq_getElem hju)]
          exact k1
        · simp only [DV.getP, DV.es]
          rw [hd]
          exact k2
        · have p1 : (b1 ++ (b2 ++ b3)).Perm (χ ++ (b1 ++ (rest ++ b3))) := by
            have q1 : (b1 ++ (b2 ++ b3)).Perm (b1 ++ (χ ++ (rest ++ b3))) := by
              refine List.Perm.append_left b1 ?_
              rw [← List.append_assoc]
              exact List.Perm.append_right b3 k3
            exact q1.trans (List.perm_append_comm_assoc b1 χ _)
          exact (List.Perm.cons b p1).trans (List.perm_middle (a := b) (l₁ := χ)).symm
        · obtain ⟨bs', m1, m2⟩ := k4 w' χ' d2 hs (fun x hx => hrest x (by simp [hx])) h'
          have hb : w'.heap[b]? = w.heap[b]? := hrest b (by simp)
          have f1 := g1.frame (w' := w') hs fun x hx => hrest x (by simp [hx])
          have f3 := g3.frame (w' := w') hs fun x hx => hrest x (by simp [hx])
          have hus : us.take j ++ ([us[j]] ++ us.drop (j + 1)) = us := by
            rw [List.singleton_append, ← List.drop_eq_getElem_cons hju, List.take_append_drop]
          have hes : es.take j ++ ([d'.setP d2 p] ++ es.drop (j + 1)) = es.set j (d'.setP d2 p) := by
            rw [List.singleton_append, List.set_eq_take_append_cons_drop, if_pos hj]
          have all := f1.append (m1.append f3)
          rw [hus, hes] at all
          refine ⟨b :: (b1 ++ (bs' ++ b3)), ?_, ?_⟩
          · simp only [DV.setP, hd]
            refine Rd.mk rfl (rangeAt_block hb h1) ?_ (Nat.lt_of_lt_of_le h3 hs) (by simpa using h4) ⟨h5, h6⟩ all
            obtain ⟨c, el, hc, hm⟩ := h2 rfl
            exact ⟨c, el, hb.trans hc, hm⟩
          · have p1 : (b1 ++ (bs' ++ b3)).Perm (χ' ++ (b1 ++ (rest ++ b3))) := by
              have q1 : (b1 ++ (bs' ++ b3)).Perm (b1 ++ (χ' ++ (rest ++ b3))) := by
                refine List.Perm.append_left b1 ?_
                rw [← List.append_assoc]
                exact List.Perm.append_right b3 m2
              exact q1.trans (List.perm_append_comm_assoc b1 χ' _)
            exact (List.Perm.cons b p1).trans (List.perm_middle (a := b) (l₁ := χ')).symm

def landed2 (φ : Option Nat → List Nat) (s : Nat) (ψ' ψy : List Nat) : Option Nat → List Nat := fun t => if t = some s then ψ' else if t = none then ψy else φ t

/-- Slot s is written through, and something new is in flight. -/
theorem RelW.write2 (h : RelW φ w0 F0 sl fx ts fv w) (s : Nat) (hs : s < sl.length) {x' y : SV} {v : Value} {ψ' ψy : List Nat} {keep : SV → SV} (hx : Ext (φ (some s)) w w') (hnd : ψ'.Nodup) (hndy : ψy.Nodup) (hdis : ∀ b ∈ ψ', b ∉ ψy)
    (hψ : ∀ b ∈ ψ', b < w'.heap.size ∧ (b ∈ φ (some s) ∨ w.heap.size ≤ b)) (hψy : ∀ b ∈ ψy, b < w'.heap.size ∧ (b ∈ φ (some s) ∨ w.heap.size ≤ b))
    (hrel : SlotRel w' (landed2 φ s ψ' ψy) (valAt ts) (valAt ts s) ψ' x') (hrely : SlotRel w' (landed2 φ s ψ' ψy) (valAt ts) v ψy y) (hk0 : ∀ y, s ∉ y.roots → keep y = y)
    (hk1 : ∀ t y, t ≠ s → sl[t]? = some y → s ∈ y.roots → SlotRel w' (landed2 φ s ψ' ψy) (valAt ts) (valAt ts t) (φ (some t)) (keep y)) :
    RelW (landed2 φ s ψ' ψy) w0 F0 ((sl.map keep).set s x') y ts v w' := by
  have e_s : landed2 φ s ψ' ψy (some s) = ψ' := by simp [landed2]
  have e_n : landed2 φ s ψ' ψy none = ψy := by simp [landed2]
  have e_t : ∀ t, t ≠ some s → t ≠ none → landed2 φ s ψ' ψy t = φ t := fun t h1 h2 => by simp [landed2, h1, h2]
  have hget : ∀ t, t ≠ s → ((sl.map keep).set s x')[t]? = (sl[t]?).map keep := fun t ht => by rw [List.getElem?_set_ne (Ne.symm ht), List.getElem?_map]
  have kept : ∀ t y, t ≠ s → sl[t]? = some y → s ∉ y.roots → SlotRel w' (landed2 φ s ψ' ψy) (valAt ts) (valAt ts t) (φ (some t)) y := fun t y hts hy hr => by
    refine (h.slot (some t) y hy).kept ⟨hx.size, fun b hb => hx.block b (h.lt _ b hb).1 (h.dj (some t) (some s) (by simpa using hts) b hb), fun r hr' => ?_, fun b hb hf => ⟨hx.block b hb (hf (some s)), fun t ht => ?_⟩⟩
    · have hne : r ≠ s := fun e => hr (e ▸ hr')
      exact ⟨rfl, by simp [landed2, hne], fun b hb => hx.block b (h.lt _ b hb).1 (h.dj (some r) (some s) (by simpa using hne) b hb)⟩
    · unfold landed2 at ht
      split at ht
      · rcases (hψ b ht).2 with g | g
        · exact hf _ g
        · omega
      · split at ht
        · rcases (hψy b ht).2 with g | g
          · exact hf _ g
          · omega
        · exact hf t ht
  refine ⟨by simp [h.len], fun t z hz => ?_, fun t => ?_, fun t t' hne b hb hb' => ?_, fun t b hb => ?_, ?_⟩
  · cases t with
    | none => cases hz; simpa only [vget, e_n] using hrely
    | some t =>
      simp only [sget] at hz
      by_cases e : t = s
      · subst e
        rw [List.getElem?_set_self (by simpa using hs)] at hz
        cases hz
        simpa only [vget, e_s] using hrel
      · rw [hget t e] at hz
        cases hy : sl[t]? with
        | none => simp [hy] at hz
        | some y0 =>
          simp only [hy, Option.map_some, Option.some.injEq] at hz
          subst hz
          simp only [vget]
          rw [e_t (some t) (by simpa using e) (by simp)]
          by_cases hr : s ∈ y0.roots
          · exact hk1 t y0 e hy hr
          · rw [hk0 y0 hr]; exact kept t y0 e hy hr
  · by_cases e1 : t = some s
    · rw [e1, e_s]; exact hnd
    · by_cases e2 : t = none
      · rw [e2, e_n]; exact hndy
      · rw [e_t t e1 e2]; exact h.nd t
  · have aux : ∀ (ψ : List Nat), (∀ b ∈ ψ, b < w'.heap.size ∧ (b ∈ φ (some s) ∨ w.heap.size ≤ b)) → ∀ t, t ≠ some s → t ≠ none → ∀ b ∈ ψ, b ∉ φ t := fun ψ hψ t h1 h2 b hb hb' => by
      rcases (hψ b hb).2 with g | g
      · exact h.dj (some s) t (Ne.symm h1) b g hb'
      · have := (h.lt t b hb').1; omega
    by_cases e1 : t = some s
    · subst e1
      rw [e_s] at hb
      by_cases e2 : t' = none
      · rw [e2, e_n] at hb'; exact hdis b hb hb'
      · rw [e_t t' (Ne.symm hne) e2] at hb'; exact aux ψ' hψ t' (Ne.symm hne) e2 b hb hb'
    · by_cases e1' : t' = some s
      · subst e1'
        rw [e_s] at hb'
        by_cases e2 : t = none
        · rw [e2, e_n] at hb; exact hdis b hb' hb
        · rw [e_t t e1 e2] at hb; exact aux ψ' hψ t e1 e2 b hb' hb
      · by_cases e2 : t = none
        · subst e2
          rw [e_n] at hb
          rw [e_t t' e1' (Ne.symm hne)] at hb'
          exact aux ψy hψy t' e1' (Ne.symm hne) b hb hb'
        · by_cases e2' : t' = none
          · subst e2'
            rw [e_n] at hb'
            rw [e_t t e1 hne] at hb
            exact aux ψy hψy t e1 hne b hb' hb
          · rw [e_t t e1 e2] at hb
            rw [e_t t' e1' e2'] at hb'
            exact h.dj t t' hne b hb hb'
  · have fin : (b < w'.heap.size ∧ (b ∈ φ (some s) ∨ w.heap.size ≤ b)) → b < w'.heap.size ∧ (w0.heap.size ≤ b ∨ b ∈ F0) := fun ⟨g1, g2⟩ => ⟨g1, by
      rcases g2 with g | g
      · exact (h.lt _ b g).2
      · exact .inl (Nat.le_trans h.ext.size g)⟩
    by_cases e1 : t = some s
    · rw [e1, e_s] at hb; exact fin (hψ b hb)
    · by_cases e2 : t = none
      · rw [e2, e_n] at hb; exact fin (hψy b hb)
      · rw [e_t t e1 e2] at hb
        exact ⟨Nat.lt_of_lt_of_le (h.lt t b hb).1 hx.size, (h.lt t b hb).2⟩
  · refine ⟨hx.os.trans h.ext.os, hx.tape.trans h.ext.tape, hx.output.trans h.ext.output, Nat.le_trans h.ext.size hx.size, fun k hk hn => ?_⟩
    refine (hx.block k (Nat.lt_of_lt_of_le hk h.ext.size) fun hm => ?_).trans (h.ext.block k hk hn)
    rcases (h.lt (some s) k hm).2 with g | g
    · omega
    · exact hn g

theorem CVRel.fitAny {f g : Nat → Value} {φ2 : Option Nat → List Nat} {v : Value} {χ : List Nat} {c : CV} (h : CVRel w φ f v χ c) (hf : c.fit = true) : CVRel w φ2 g v χ c := by
  cases c with
  | sc u => exact h
  | own d => exact h
  | _ => simp [CV.fit] at hf
theorem CVs.fitAny {f g : Nat → Value} {φ2 : Option Nat → List Nat} {vs : List Value} {χ : List Nat} {cs : List CV} (h : CVs w φ f vs cs χ) (hf : cs.all CV.fit = true) : CVs w φ2 g vs cs χ := by
  induction h with
  | nil => exact .nil
  | cons h _ ih =>
    simp only [List.all_cons, Bool.and_eq_true] at hf
    exact .cons (h.fitAny hf.1) (ih hf.2)
/-- What is fixed among the cells found was fixed from the start. -/
def sameV (zs cs : List CV) : Prop := ∀ (j : Nat) (u : Value) (d : DV), cs[j]? = some (.vl u d) → zs[j]? = some (.vl u d)
theorem own_fit {c : CV} (h : c.isOwn = true) : c.fit = true := by
  cases c <;> first | rfl | cases h
theorem fit_sameV {zs ws : List CV} (hs : sameV zs ws) (hz : zs.all CV.fit = true) (hw : ws.all CV.fitV = true) : ws.all CV.fit = true := by
  rw [List.all_eq_true] at hw ⊢
  intro c hc
  have h1 := hw c hc
  cases c with
  | vl u d =>
    obtain ⟨j, hj, e⟩ := List.mem_iff_getElem.1 hc
    have h2 := hs j u d (by rw [List.getElem?_eq_getElem hj, e])
    have := List.all_eq_true.1 hz _ (List.mem_of_getElem? h2)
    simp [CV.fit] at this
  | _ => simp_all [CV.fitV, CV.fit]
theorem CVRel.fitV {f g : Nat → Value} {φ2 : Option Nat → List Nat} {v : Value} {χ : List Nat} {c : CV} (h : CVRel w φ f v χ c) (hf : c.fitV = true) (hφ : ∀ b, b < w.heap.size → (∀ t, b ∉ φ t) → ∀ t, b ∉ φ2 t) : CVRel w φ2 g v χ c := by
  cases c with
  | sc u => exact h
  | own d => exact h
  | vl u d => obtain ⟨h1, h2, bs, h3, h4⟩ := h; exact ⟨h1, h2, bs, h3, fun b hb => hφ b (h3.lt b hb) (h4 b hb)⟩
  | _ => simp [CV.fitV] at hf
theorem CVs.fitV {f g : Nat → Value} {φ2 : Option Nat → List Nat} {vs : List Value} {χ : List Nat} {cs : List CV} (h : CVs w φ f vs cs χ) (hf : cs.all CV.fitV = true) (hφ : ∀ b, b < w.heap.size → (∀ t, b ∉ φ t) → ∀ t, b ∉ φ2 t) : CVs w φ2 g vs cs χ := by
  induction h with
  | nil => exact .nil
  | cons h _ ih =>
    simp only [List.all_cons, Bool.and_eq_true] at hf
    exact .cons (h.fitV hf.1 hφ) (ih hf.2)
theorem box_fitV {f g : Nat → Value} {φ2 : Option Nat → List Nat} {v : Value} {χ : List Nat} {cs : List CV} (h : SlotRel w φ f v χ (.box cs)) (hf : cs.all CV.fitV = true) (hφ : ∀ b, b < w.heap.size → (∀ t, b ∉ φ t) → ∀ t, b ∉ φ2 t) : SlotRel w φ2 g v χ (.box cs) := by
  obtain ⟨h1, b, c, el, ψs, h2, h3, h4, h5⟩ := h
  exact ⟨h1, b, c, el, ψs, h2, h3, h4.fitV hf hφ, h5⟩
/-- A box comes back from a callee: what was fixed in it reads as before. -/
theorem CVs.backV {f g : Nat → Value} {φ1 φ2 : Option Nat → List Nat} {w' : World} {vs : List Value} {χ : List Nat} {cs : List CV} (h : CVs w' φ1 f vs cs χ) (hf : cs.all CV.fitV = true)
    (H : ∀ u d, CV.vl u d ∈ cs → ∃ bs, Rd false w' [u] [d] bs ∧ ∀ b ∈ bs, ∀ t, b ∉ φ2 t) : CVs w' φ2 g vs cs χ := by
  induction h with
  | nil => exact .nil
  | @cons v c ψ vs cs ψs h _ ih =>
    simp only [List.all_cons, Bool.and_eq_true] at hf
    refine .cons ?_ (ih hf.2 fun u d hm => H u d (List.mem_cons_of_mem _ hm))
    cases c with
    | sc u => exact h
    | own d => exact h
    | vl u d =>
      obtain ⟨bs, g1, g2⟩ := H u d (List.mem_cons_self ..)
      obtain ⟨h1, rfl, -⟩ := h
      exact ⟨h1, rfl, bs, g1, g2⟩
    | _ => simp [CV.fitV] at hf
theorem CVs.vlAt {f : Nat → Value} {vs : List Value} {χ : List Nat} {cs : List CV} (h : CVs w φ f vs cs χ) {u : Value} {d : DV} (hm : CV.vl u d ∈ cs) : ∃ bs, Rd false w [u] [d] bs ∧ ∀ b ∈ bs, ∀ t, b ∉ φ t := by
  induction h with
  | nil => cases hm
  | cons h _ ih =>
    rcases List.mem_cons.1 hm with rfl | hm
    · obtain ⟨-, rfl, bs, g1, g2⟩ := h
      exact ⟨bs, g1, g2⟩
    · exact ih hm
theorem box_fitAny {f g : Nat → Value} {φ2 : Option Nat → List Nat} {v : Value} {χ : List Nat} {cs : List CV} (h : SlotRel w φ f v χ (.box cs)) (hf : cs.all CV.fit = true) : SlotRel w φ2 g v χ (.box cs) := by
  obtain ⟨h1, b, c, el, ψs, h2, h3, h4, h5⟩ := h
  exact ⟨h1, b, c, el, ψs, h2, h3, h4.fitAny hf, h5⟩

/-- A struct's headers and the box's cells that they lie in: what is lent, and what comes back. -/
theorem agg_focus {f : Nat → Value} {s : Nat} : ∀ (xs : List CV) (j : Nat) {us : List Value} {ψ0 : List Nat} {vbs : List Value} {bs ys : List CV} {ψs : List Nat}, CVs w φ f us xs ψ0 → CVs w φ f vbs bs ψs → ioAgg s j xs bs = some ys →
    (∀ (k : Nat) (d : DV) (u : Value), xs[k]? = some (.ref s [j + k] d) → us[k]? = some u → vbs[k]? = some u) → (∀ c ∈ bs, c.roots = []) →
    ∃ χ rest, ψs.Perm (χ ++ rest) ∧ (∀ (φ2 : Option Nat → List Nat) (g : Nat → Value), CVs w φ2 g us ys χ) ∧ (∀ c ∈ ys, c.roots = []) ∧
      ∀ (w' : World) (χ' : List Nat) (ws : List CV) (φ1 : Option Nat → List Nat) (g1 : Nat → Value), w.heap.size ≤ w'.heap.size → (∀ b ∈ rest, w'.heap[b]? = w.heap[b]?) → ws.length = (ys.filter CV.isOwn).length → ws.all CV.fit = true →
        CVs w' φ1 g1 us (fillOwn ys ws) χ' → (∀ b, b < w.heap.size → (∀ t, b ∉ φ t) → w'.heap[b]? = w.heap[b]?) → (∀ c ∈ fillBox bs ys ws, c.roots = []) ∧ ∃ ψ', ψ'.Perm (χ' ++ rest) ∧
          ∀ φ2 : Option Nat → List Nat, (∀ b, b < w.heap.size → (∀ t, b ∉ φ t) → ∀ t, b ∉ φ2 t) → CVs w' φ2 f vbs (fillBox bs ys ws) ψ'
  | [], j, us, ψ0, vbs, bs, ys, ψs, hx, hb, hio, hh, hroot => by
    cases hx
    simp only [ioAgg, Option.some.injEq] at hio
    subst hio
    have hbs : ∀ ws, fillBox bs [] ws = bs := fun ws => by cases bs <;> rfl
    refine ⟨[], ψs, by simp, fun _ _ => .nil, fun c hc => (by cases hc), fun w' χ' ws φ1 g1 hs hrest hl hf hr hfree => ?_⟩
    rw [hbs]
    simp only [fillOwn] at hr
    cases hr
    refine ⟨hroot, ψs, by simp, fun φ2 hfree2 => hb.kept ⟨hs, hrest, fun r hr => ?_, fun b h1 h2 => ⟨hfree b h1 h2, hfree2 b h1 h2⟩⟩⟩
    obtain ⟨c', hc', hr'⟩ := List.mem_flatMap.1 hr
    rw [hroot c' hc'] at hr'
    cases hr'
  | x :: xs, j, us, ψ0, vbs, bs, ys, ψs, hx, hb, hio, hh, hroot => by
    cases hb with
    | nil => simp [ioAgg] at hio
    | @cons vb b ψb vbs bs ψs hb1 hb2 =>
    cases hx with
    | @cons u _ ψx us _ ψxs hx1 hx2 =>
    simp only [ioAgg] at hio
    split at hio
    · rename_i y ys1 e1 e2
      simp only [Option.some.injEq] at hio
      subst hio
      obtain ⟨χ, rest, k1, k2, k3, k4⟩ := agg_focus xs (j + 1) hx2 hb2 e2 (fun k d u' h1 h2 => by
        have := hh (k + 1) d u' (by rw [List.getElem?_cons_succ, h1]; congr 3; omega) (by simpa using h2)
        simpa using this) (fun c hc => hroot c (List.mem_cons_of_mem _ hc))
      split at e1
      · rename_i v
        simp only [Option.some.injEq] at e1
        subst e1
        obtain ⟨rfl, hsc, rfl⟩ := hx1
        refine ⟨χ, ψb ++ rest, ?_, fun φ2 g => by simpa using CVs.cons (c := CV.sc u) (ψ := []) ⟨rfl, hsc, rfl⟩ (k2 φ2 g), fun c hc => ?_, fun w' χ' ws φ1 g1 hs hrest hl hf hr hfree => ?_⟩
        · exact (List.Perm.append_left ψb k1).trans (List.perm_append_comm_assoc ψb χ rest)
        · rcases List.mem_cons.1 hc with rfl | hc
          · rfl
          · exact k3 c hc
        · simp only [fillOwn] at hr
          generalize hq : fillOwn ys1 ws = q at hr
          cases hr with
          | @cons _ _ ψ1 _ _ ψ2 hr1 hr2 =>
          subst hq
          obtain ⟨-, -, rfl⟩ := hr1
          obtain ⟨m0, ψ', m1, m2⟩ := k4 w' ψ2 ws φ1 g1 hs (fun b hb => hrest b (List.mem_append_right _ hb)) (by simpa [CV.isOwn] using hl) hf hr2 hfree
          simp only [fillBox]
          refine ⟨fun c hc => ?_, ψb ++ ψ', ?_, fun φ2 hfree2 => .cons (hb1.kept ⟨hs, fun b hb => hrest b (List.mem_append_left _ hb), fun r hr => ?_, fun b h1 h2 => ⟨hfree b h1 h2, hfree2 b h1 h2⟩⟩) (m2 φ2 hfree2)⟩
          · rcases List.mem_cons.1 hc with rfl | hc
            · exact hroot _ (List.mem_cons_self ..)
            · exact m0 c hc
          · exact (List.Perm.append_left ψb m1).trans (List.perm_append_comm_assoc ψb ψ2 rest)
          · rw [hroot _ (List.mem_cons_self ..)] at hr; cases hr
      · rename_i s' j' d0 d
        split at e1
        · rename_i hc
          simp only [Bool.and_eq_true, beq_iff_eq] at hc
          obtain ⟨rfl, rfl⟩ := hc
          simp only [Option.some.injEq] at e1
          subst e1
          have hv : vb = u := by
            have := hh 0 d0 u (by simp) (by simp)
            simpa using this
          subst hv
          have hb1 : Rd true w [vb] [d] ψb := hb1
          refine ⟨ψb ++ χ, rest, by simpa using List.Perm.append_left ψb k1, fun φ2 g => .cons hb1 (k2 φ2 g), fun c hc => ?_, fun w' χ' ws φ1 g1 hs hrest hl hf hr hfree => ?_⟩
          · rcases List.mem_cons.1 hc with rfl | hc
            · rfl
            · exact k3 c hc
          · cases ws with
            | nil => rw [List.filter_cons_of_pos rfl] at hl; simp at hl
            | cons wc ws =>
            simp only [fillOwn] at hr
            generalize hq : fillOwn ys1 ws = q at hr
            cases hr with
            | @cons _ _ ψ1 _ _ ψ2 hr1 hr2 =>
            subst hq
            simp only [List.all_cons, Bool.and_eq_true] at hf
            obtain ⟨m0, ψ', m1, m2⟩ := k4 w' ψ2 ws φ1 g1 hs hrest (by rw [List.filter_cons_of_pos rfl] at hl; simpa using hl) hf.2 hr2 hfree
            simp only [fillBox]
            refine ⟨fun c hc => ?_, ψ1 ++ ψ', by simpa using List.Perm.append_left ψ1 m1, fun φ2 hfree2 => .cons (hr1.fitAny hf.1) (m2 φ2 hfree2)⟩
            rcases List.mem_cons.1 hc with rfl | hc
            · have := hf.1
              cases c <;> simp_all [CV.fit, CV.roots]
            · exact m0 c hc
        · cases e1
      · cases e1
    · cases hio

theorem ioAgg_bare {s : Nat} {f : Nat → Value} : ∀ (xs bs ys : List CV) (j : Nat), ioAgg s j xs bs = some ys → ∀ {us : List Value} {ψ : List Nat}, CVs w φ f us xs ψ → ψ = []
  | [], bs, ys, j, h, us, ψ, hr => by cases hr; rfl
  | x :: xs, [], ys, j, h, us, ψ, hr => by cases h
  | x :: xs, b :: bs, ys, j, h, us, ψ, hr => by
    simp only [ioAgg] at h
    split at h
    · rename_i y ys1 e1 e2
      cases hr with
      | cons h1 h2 =>
      rw [ioAgg_bare xs bs ys1 (j + 1) e2 h2, List.append_nil]
      split at e1
      · exact h1.2.2
      · exact h1.1
      · cases e1
    · cases h

theorem cvs_at {f : Nat → Value} : ∀ {vs : List Value} {cs : List CV} {ψ : List Nat}, CVs w φ f vs cs ψ → ∀ (k : Nat) (c : CV) (v : Value), cs[k]? = some c → vs[k]? = some v → ∃ ψ', CVRel w φ f v ψ' c := by
  intro vs cs ψ h
  induction h with
  | nil => intro k c v h1 _; simp at h1
  | cons h1 _ ih =>
    intro k c' v' e1 e2
    cases k with
    | zero => simp at e1 e2; subst e1 e2; exact ⟨_, h1⟩
    | succ k => exact ih k c' v' (by simpa using e1) (by simpa using e2)

/-- What is lent to be written: what it owns, and what comes back. -/
theorem io_focus (h : RelW φ w0 F0 sl fx ts fv w) {x y : SV} {c : List Prop} {s : Nat} {p : List Nat} {zs : List CV} {u : Value} (hx : SlotRel w φ (valAt ts) u [] x) (hio : ioV sl x = some (c, s, p, y, zs)) (hc : ∀ q ∈ c, q) :
    ∃ χ rest, (φ (some s)).Perm (χ ++ rest) ∧ s < sl.length ∧ y.roots = [] ∧ (isBox y = true → u = valAt ts s ∧ rest = []) ∧ (isBox (gt sl s) = true → p ≠ [] → ∃ b0, valAt ts s = .pointer (some ⟨b0, 0, none⟩) ∧ b0 ∈ rest) ∧ (∀ ψ' g, (∀ b, b < w.heap.size → (∀ t, b ∉ φ t) → ∀ t, b ∉ ψ' t) → SlotRel w ψ' g u χ y) ∧
      ∀ (w' : World) (χ' : List Nat) (ws : List CV) (φ1 : Option Nat → List Nat) (g1 : Nat → Value), w.heap.size ≤ w'.heap.size → (∀ b ∈ rest, w'.heap[b]? = w.heap[b]?) → ws.length = zs.length → sameV zs ws → ws.all CV.fitV = true → SlotRel w' φ1 g1 u χ' (ioSV y ws) →
        (∀ b, b < w.heap.size → (∀ t, b ∉ φ t) → w'.heap[b]? = w.heap[b]?) → ∃ ψ', ψ'.Perm (χ' ++ rest) ∧
          ∀ φ2 : Option Nat → List Nat, (∀ b, b < w.heap.size → (∀ t, b ∉ φ t) → ∀ t, b ∉ φ2 t) → SlotRel w' φ2 (valAt ts) (valAt ts s) ψ' (ioPut y (gt sl s) p ws) := by
  have hg := gt_rel h s
  have lt : gt sl s ≠ .dead → s < sl.length := fun hd => slot_lt rfl hd
  have back : ∀ (w' : World) (χ' : List Nat) (ws : List CV) (φ1 : Option Nat → List Nat) (g1 : Nat → Value), ws.length = 1 → ws.all CV.fit = true → CVRel w' φ1 g1 u χ' (ws.headD .un) → Rd true w' [u] [(ws.headD .un).toDV] χ' := by
    intro w' χ' ws φ1 g1 hl hf hr
    cases ws with
    | nil => cases hl
    | cons c ws =>
      have hf : c.fit = true := by simp only [List.all_cons, Bool.and_eq_true] at hf; exact hf.1
      simp only [List.headD_cons] at hr ⊢
      have := (CVs.cons (w := w') (φ := φ1) (f := g1) hr .nil).fit (by simpa using hf)
      simpa using this
  unfold ioV at hio
  split at hio
  · rename_i s0 p0 sz es
    obtain ⟨-, h1, -⟩ := hx
    split at hio
    · rename_i p1 d hd
      cases hio
      have hp : d.InP p := hc _ (by simp)
      have he : d.getP p = .sl sz es := hc _ (by simp)
      rw [hd] at hg lt
      obtain ⟨u', χ, rest, k1, k2, k3, k4⟩ := Rd.focus (F := φ (some s)) p (show Rd true w [valAt ts s] [d] (φ (some s)) from hg) (fun _ hb => hb) hp
      have : u' = u := by rw [h1] at k1; exact (Option.some.inj k1).symm
      subst this
      rw [he] at k2
      refine ⟨χ, rest, k3, lt (by simp), rfl, (fun hb => by cases hb), (fun hb => by rw [hd] at hb; cases hb), fun _ _ _ => k2, fun w' χ' ws φ1 g1 hs hrest hl hsv hf hr hfree => ?_⟩
      replace hf := fit_sameV hsv rfl hf
      obtain ⟨bs', m1, m2⟩ := k4 w' χ' (ws.headD .un).toDV hs hrest (back w' χ' ws φ1 g1 hl hf hr)
      rw [hd]
      exact ⟨bs', m2, fun _ _ => m1⟩
    · rename_i cs j p1 hd
      split at hio
      · rename_i d hj
        cases hio
        have hp : d.InP p1 := hc _ (by simp)
        have he : d.getP p1 = .sl sz es := hc _ (by simp)
        rw [hd] at hg lt
        obtain ⟨hroots, b0, cc, el, ψs, h2, h3, h4, h5⟩ := hg
        have hjl : j < cs.length := by
          refine Nat.lt_of_not_le fun hle => ?_
          simp [List.getD, List.getElem?_eq_none hle] at hj
        have hjc : cs[j]? = some (.own d) := by
          simp only [List.getD, List.getElem?_eq_getElem hjl, Option.getD_some] at hj
          rw [List.getElem?_eq_getElem hjl, hj]
        obtain ⟨ψ1, ψ2, g1, g2, rfl⟩ := h4.split j
        obtain ⟨ψ3, ψ4, g3, g4, rfl⟩ := g2.split 1
        have hjv : j < cc.toList.length := by rw [h4.len]; exact hjl
        have e1 : (cc.toList.drop j).take 1 = [cc.toList[j]] := by rw [List.drop_eq_getElem_cons hjv]; rfl
        have e2 : (cs.drop j).take 1 = [.own d] := by
          rw [List.drop_eq_getElem_cons hjl, (List.getElem?_eq_some_iff.1 hjc).2]; rfl
        rw [e1, e2] at g3
        obtain ⟨uv, hu, g5⟩ := g3.single
        cases hu
        have hcell : w.cell? ⟨b0, 0 + j, none⟩ = some cc.toList[j] := by
          simp only [World.cell?, h3, Nat.zero_add]
          simp at hjv
          simp [hjv]
        rw [h2] at h1
        simp only [hdr, locOf] at h1
        rw [if_pos (by rw [h5]; exact List.mem_cons_self ..), hcell] at h1
        simp only [Option.bind_some] at h1
        obtain ⟨u', χ, rest, k1, k2, k3, k4⟩ := Rd.focus (F := φ (some s)) p1 (show Rd true w [cc.toList[j]] [d] ψ3 from g5) (fun b hb => by rw [h5]; simp [hb]) hp
        have : u' = u := by rw [h1] at k1; exact (Option.some.inj k1).symm
        subst this
        rw [he] at k2
        rw [List.drop_drop, List.drop_drop] at g4
        refine ⟨χ, b0 :: (ψ1 ++ (rest ++ ψ4)), ?_, lt (by simp), rfl, (fun hb => by cases hb), fun _ _ => ⟨b0, h2, List.mem_cons_self ..⟩, fun _ _ _ => k2, fun w' χ' ws φ1 g1' hs hrest hl hsv hf hr hfree => ?_⟩
        · rw [h5]
          have p1 : (ψ1 ++ (ψ3 ++ ψ4)).Perm (χ ++ (ψ1 ++ (rest ++ ψ4))) := by
            have q1 : (ψ1 ++ (ψ3 ++ ψ4)).Perm (ψ1 ++ (χ ++ (rest ++ ψ4))) := by
              refine List.Perm.append_left ψ1 ?_
              rw [← List.append_assoc]
              exact List.Perm.append_right ψ4 k3
            exact q1.trans (List.perm_append_comm_assoc ψ1 χ _)
          exact (List.Perm.cons b0 p1).trans (List.perm_middle (a := b0) (l₁ := χ)).symm
        · replace hf := fit_sameV hsv rfl hf
          obtain ⟨bs', m1, m2⟩ := k4 w' χ' (ws.headD .un).toDV hs (fun x hx => hrest x (by simp [hx])) (back w' χ' ws φ1 g1' hl hf hr)
          refine ⟨b0 :: (ψ1 ++ (bs' ++ ψ4)), ?_, fun φ2 hfree2 => ?_⟩
          · have p1 : (ψ1 ++ (bs' ++ ψ4)).Perm (χ' ++ (ψ1 ++ (rest ++ ψ4))) := by
              have q1 : (ψ1 ++ (bs' ++ ψ4)).Perm (ψ1 ++ (χ' ++ (rest ++ ψ4))) := by
                refine List.Perm.append_left ψ1 ?_
                rw [← List.append_assoc]
                exact List.Perm.append_right ψ4 m2
              exact q1.trans (List.perm_append_comm_assoc ψ1 χ' _)
            exact (List.Perm.cons b0 p1).trans (List.perm_middle (a := b0) (l₁ := χ')).symm
          have hfit : ∀ {vs : List Value} {cs' : List CV} {ψ : List Nat}, CVs w φ (valAt ts) vs cs' ψ → (∀ c ∈ cs', c.roots = []) → (∀ b ∈ ψ, w'.heap[b]? = w.heap[b]?) → CVs w' φ2 (valAt ts) vs cs' ψ := fun hcv hr0 hb => by
            refine hcv.kept ⟨hs, hb, fun r hr => ?_, fun b h1 h2 => ⟨hfree b h1 h2, hfree2 b h1 h2⟩⟩
            obtain ⟨c', hc', hr'⟩ := List.mem_flatMap.1 hr
            rw [hr0 c' hc'] at hr'
            cases hr'
          have f1 := hfit g1 (fun c' hc' => hroots c' (List.mem_of_mem_take hc')) fun x hx => hrest x (by simp [hx])
          have f4 := hfit g4 (fun c' hc' => hroots c' (List.mem_of_mem_drop hc')) fun x hx => hrest x (by simp [hx])
          have mid : CVRel w' φ2 (valAt ts) cc.toList[j] bs' (.own (d.setP (ws.headD .un).toDV p1)) := m1
          have all := f1.append (CVs.cons mid f4)
          have e3 : cc.toList.take j ++ cc.toList[j] :: cc.toList.drop (j + 1) = cc.toList := by
            rw [← List.drop_eq_getElem_cons hjv, List.take_append_drop]
          have e4 : cs.take j ++ CV.own (d.setP (ws.headD .un).toDV p1) :: cs.drop (j + 1) = cs.set j (.own (d.setP (ws.headD .un).toDV p1)) := by
            rw [List.set_eq_take_append_cons_drop, if_pos hjl]
          rw [e3, e4] at all
          rw [hd]
          have hset : ioSet (.box cs) (j :: p1) ws = .box (cs.set j (.own (d.setP (ws.headD .un).toDV p1))) := by
            simp only [ioSet, hj]
          show SlotRel w' φ2 (valAt ts) (valAt ts _) _ (ioSet (.box cs) (j :: p1) ws)
          rw [hset]
          refine ⟨fun c' hc' => ?_, b0, cc, el, _, h2, ?_, all, rfl⟩
          · rcases List.mem_or_eq_of_mem_set hc' with h' | h'
            · exact hroots c' h'
            · rw [h']; rfl
          · rw [hrest b0 (by simp)]; exact h3
      · cases hio
    · cases hio
  · rename_i s0
    split at hio
    · rename_i cs hd
      split at hio
      · rename_i hf
        cases hio
        rw [hd] at hg lt
        have hu : u = valAt ts s := by
          obtain ⟨-, hv, b, o, k1, k2, k3⟩ := hx
          obtain ⟨-, b0, cc, el, ψs, h2, -⟩ := hg
          simp only [hdr, Option.some.injEq] at k1
          subst k1
          rw [h2] at k2 ⊢
          simp only [locOf, Option.some.injEq, Prod.mk.injEq] at k2
          obtain ⟨rfl, rfl⟩ := k2
          exact k3
        subst hu
        refine ⟨φ (some s), [], by simp, lt (by simp), ?_, fun _ => ⟨rfl, rfl⟩, fun _ hp => absurd rfl hp, fun ψ' g hψ => box_fitV hg hf hψ, fun w' χ' ws φ1 g1 hs hrest hl hsv hfw hr hfree => ?_⟩
        · simpa [SV.roots] using hg.1
        · rw [hd]
          refine ⟨χ', by simp, fun φ2 hfree2 => ?_⟩
          obtain ⟨q1, b, c, el, ψs, q2, q3, q4, q5⟩ := hr
          obtain ⟨-, b0, c0, el0, ψs0, p2, p3, p4, p5⟩ := hg
          refine ⟨q1, b, c, el, ψs, q2, q3, q4.backV hfw fun u d hm => ?_, q5⟩
          obtain ⟨j, hj, e⟩ := List.mem_iff_getElem.1 hm
          have hz := hsv j u d (by rw [List.getElem?_eq_getElem hj, e])
          obtain ⟨bs, m1, m2⟩ := p4.vlAt (List.mem_of_getElem? hz)
          exact ⟨bs, m1.frame hs fun x hx => hfree x (m1.lt x hx) (m2 x hx), fun x hx => hfree2 x (m1.lt x hx) (m2 x hx)⟩
      · cases hio
    · cases hio
  · rename_i xs
    split at hio
    · rename_i s0 o hat
      split at hio
      · rename_i bs hd
        simp only [Option.map_eq_some_iff, Prod.mk.injEq] at hio
        obtain ⟨ys, hio, rfl, rfl, rfl, rfl, rfl⟩ := hio
        rw [hd] at hg lt
        obtain ⟨hroots, b0, cc, el, ψs, h2, h3, h4, h5⟩ := hg
        obtain ⟨us, hu, hxs⟩ := hx
        obtain ⟨ψ1, ψ2, g1, g2, rfl⟩ := h4.split o
        have head : ∀ (k : Nat) (d : DV) (u' : Value), xs[k]? = some (.ref s0 [o + k] d) → us.toList[k]? = some u' → (cc.toList.drop o)[k]? = some u' := fun k d u' e1 e2 => by
          obtain ⟨ψ', -, e3, -⟩ := cvs_at hxs k _ u' e1 e2
          rw [h2] at e3
          simp only [hdr, locOf] at e3
          rw [if_pos (by rw [h5]; exact List.mem_cons_self ..)] at e3
          have e4 : w.cell? ⟨b0, 0 + (o + k), none⟩ = cc.toList[o + k]? := by simp [World.cell?, h3]
          rw [e4] at e3
          rw [List.getElem?_drop]
          simpa [Option.bind_eq_some_iff] using e3
        obtain ⟨χ, rest, k1, k2, k3, k4⟩ := agg_focus xs o hxs g2 hio head fun c' hc' => hroots c' (List.mem_of_mem_drop hc')
        refine ⟨χ, b0 :: (ψ1 ++ rest), ?_, lt (by simp), List.flatMap_eq_nil_iff.2 k3, (fun hb => by cases hb), fun _ _ => ⟨b0, h2, List.mem_cons_self ..⟩, fun ψ' g _ => ⟨us, hu, k2 ψ' g⟩, fun w' χ' ws φ1 g1' hs hrest hl hsv hf hr hfree => ?_⟩
        · rw [h5]
          exact (List.Perm.cons b0 ((List.Perm.append_left ψ1 k1).trans (List.perm_append_comm_assoc ψ1 χ rest))).trans (List.perm_middle (a := b0) (l₁ := χ)).symm
        · replace hf := fit_sameV hsv (List.all_eq_true.2 fun c hc => own_fit (List.mem_filter.1 hc).2) hf
          obtain ⟨us', hu', hr⟩ := hr
          rw [hu] at hu'
          cases hu'
          obtain ⟨m0, ψ', m1, m2⟩ := k4 w' χ' ws φ1 g1' hs (fun b hb => hrest b (by simp [hb])) hl hf hr hfree
          refine ⟨b0 :: (ψ1 ++ ψ'), (List.Perm.cons b0 ((List.Perm.append_left ψ1 m1).trans (List.perm_append_comm_assoc ψ1 χ' rest))).trans (List.perm_middle (a := b0) (l₁ := χ')).symm, fun φ2 hfree2 => ?_⟩
          have f1 : CVs w' φ2 (valAt ts) (cc.toList.take o) (bs.take o) ψ1 := by
            refine g1.kept ⟨hs, fun b hb => hrest b (by simp [hb]), fun r hr => ?_, fun b h1 h2 => ⟨hfree b h1 h2, hfree2 b h1 h2⟩⟩
            obtain ⟨c', hc', hr'⟩ := List.mem_flatMap.1 hr
            rw [hroots c' (List.mem_of_mem_take hc')] at hr'
            cases hr'
          have all := f1.append (m2 φ2 hfree2)
          rw [List.take_append_drop] at all
          rw [hd]
          refine ⟨fun c' hc' => ?_, b0, cc, el, _, h2, ?_, all, rfl⟩
          · rcases List.mem_append.1 hc' with h' | h'
            · exact hroots c' (List.mem_of_mem_take h')
            · exact m0 c' h'
          · rw [hrest b0 (by simp)]; exact h3
      · cases hio
    · cases hio
  · cases hio

/-- What is lent for reading beside what is lent to be written. -/
theorem lent_apart {f g : Nat → Value} {v : Value} {χ0 : List Nat} {c : CV} {X : List Nat} {φc : Option Nat → List Nat} (hφc : ∀ t, ∀ b ∈ φc t, b ∈ X) (h : CVRel w φ f v χ0 c) (h0 : ∀ b ∈ χ0, b ∉ X)
    (hfree : ∀ b, (∀ t, b ∉ φ t) → b ∉ X) (hroot : ∀ r ∈ c.roots, ∀ b ∈ φ (some r), b ∉ X) : CVRel w φc g v [] c.lent := by
  cases c with
  | un => exact trivial
  | sc u => exact ⟨h.1, h.2.1, rfl⟩
  | rd d => obtain ⟨-, bs, h1, h2⟩ := h; exact ⟨rfl, bs, h1, fun b hb t ht => hfree b (h2 b hb) (hφc t b ht)⟩
  | own d => exact ⟨rfl, χ0, Rd.weaken h, fun b hb t ht => h0 b hb (hφc t b ht)⟩
  | ref s p d => obtain ⟨-, -, bs, h1, h2⟩ := h; exact ⟨rfl, bs, h1, fun b hb t ht => hroot s (by simp [CV.roots]) b (h2 b hb) (hφc t b ht)⟩
  | sub s p lo d => obtain ⟨-, a, n, cap, a', n', cap', bs, -, -, -, h1, h2⟩ := h; exact ⟨rfl, bs, h1, fun b hb t ht => hroot s (by simp [CV.roots]) b (h2 b hb) (hφc t b ht)⟩
  | nb es => exact ⟨rfl, h.2⟩
  | hd s p => exact trivial
  | vl u d => obtain ⟨-, h0, bs, h1, h2⟩ := h; exact ⟨rfl, h0, bs, h1, fun b hb t ht => hfree b (h2 b hb) (hφc t b ht)⟩
theorem lents_apart {f g : Nat → Value} {vs : List Value} {χ0 : List Nat} {cs : List CV} {X : List Nat} {φc : Option Nat → List Nat} (hφc : ∀ t, ∀ b ∈ φc t, b ∈ X) (h : CVs w φ f vs cs χ0) (h0 : ∀ b ∈ χ0, b ∉ X)
    (hfree : ∀ b, (∀ t, b ∉ φ t) → b ∉ X) (hroot : ∀ r ∈ cs.flatMap CV.roots, ∀ b ∈ φ (some r), b ∉ X) : CVs w φc g vs (cs.map CV.lent) [] := by
  induction h with
  | nil => exact .nil
  | @cons v c ψ vs cs ψs h1 _ ih =>
    have := CVs.cons (lent_apart (g := g) hφc h1 (fun b hb => h0 b (by simp [hb])) hfree fun r hr => hroot r (by simp [hr]))
      (ih (fun b hb => h0 b (by simp [hb])) fun r hr => hroot r (by simp only [List.flatMap_cons, List.mem_append]; exact .inr hr))
    simpa using this
theorem ptr_apart {v : Value} {es : List DV} {X : List Nat} {φc : Option Nat → List Nat} (hφc : ∀ t, ∀ b ∈ φc t, b ∈ X) (hfree : ∀ b, (∀ t, b ∉ φ t) → b ∉ X) (h : PtrRd w φ v es) : PtrRd w φc v es := by
  obtain ⟨b, o, vs, bs, h1, h2, h3, h4, h5, h6⟩ := h
  exact ⟨b, o, vs, bs, h1, h2, h3, h4, fun t ht => hfree b h5 (hφc t b ht), fun b' hb' t ht => hfree b' (h6 b' hb') (hφc t b' ht)⟩
theorem ptrs_apart {vs : List Value} {cs : List (List DV)} {X : List Nat} {φc : Option Nat → List Nat} (hφc : ∀ t, ∀ b ∈ φc t, b ∈ X) (hfree : ∀ b, (∀ t, b ∉ φ t) → b ∉ X) (h : PtrRds w φ vs cs) : PtrRds w φc vs cs := by
  induction h with
  | nil => exact .nil
  | cons h _ ih => exact .cons (ptr_apart hφc hfree h) ih

theorem free_rd {f : Nat → Value} {vs : List Value} {cs : List CV} {ψ : List Nat} (h : CVs w φ f vs cs ψ) (hf : cs.all CV.free = true) : ∃ bs, Rd false w vs (cs.map CV.toDV) bs ∧ ∀ b ∈ bs, b ∈ ψ ∨ ∀ t, b ∉ φ t := by
  induction h with
  | nil => exact ⟨[], .nil, fun b hb => by cases hb⟩
  | @cons v c ψ vs cs ψs h1 _ ih =>
    simp only [List.all_cons, Bool.and_eq_true] at hf
    obtain ⟨bs, h2, h3⟩ := ih hf.2
    cases c with
    | sc u =>
      obtain ⟨rfl, hs, rfl⟩ := h1
      exact ⟨bs, .sc hs h2, fun b hb => by simpa using h3 b hb⟩
    | rd d =>
      obtain ⟨rfl, bs1, h4, h5⟩ := h1
      refine ⟨bs1 ++ bs, by simpa [CV.toDV] using h4.append h2, fun b hb => ?_⟩
      rcases List.mem_append.1 hb with hb | hb
      · exact .inr (h5 b hb)
      · simpa using h3 b hb
    | vl u d =>
      obtain ⟨rfl, -, bs1, h4, h5⟩ := h1
      refine ⟨bs1 ++ bs, by simpa [CV.toDV] using h4.append h2, fun b hb => ?_⟩
      rcases List.mem_append.1 hb with hb | hb
      · exact .inr (h5 b hb)
      · simpa using h3 b hb
    | own d =>
      have h1 : Rd true w [v] [d] ψ := h1
      refine ⟨ψ ++ bs, by simpa [CV.toDV] using h1.weaken.append h2, fun b hb => ?_⟩
      rcases List.mem_append.1 hb with hb | hb
      · exact .inl (by simp [hb])
      · rcases h3 b hb with h' | h'
        · exact .inl (by simp [h'])
        · exact .inr h'
    | _ => simp [CV.free] at hf

theorem caps_rel (h : RelW φ w0 F0 sl fx ts fv w) {X : List Nat} {φc : Option Nat → List Nat} (hφc : ∀ t, ∀ b ∈ φc t, b ∈ X) (hfree : ∀ b, (∀ t, b ∉ φ t) → b ∉ X) : ∀ {ss : List Nat} {caps : List (List DV)}, capsV sl ss = some caps →
    (∀ r ∈ ss, ∀ b ∈ φ (some r), b ∉ X) → PtrRds w φc (ss.map (valAt ts)) caps
  | [], caps, hx, _ => by cases hx; exact .nil
  | s :: ss, caps, hx, hr => by
    simp only [capsV] at hx
    split at hx
    · rename_i cs r hb hr'
      split at hx
      · rename_i hf
        cases hx
        have hg := gt_rel h s
        rw [hb] at hg
        obtain ⟨-, b, c, el, ψs, h1, h2, h3, h4⟩ := hg
        obtain ⟨bs, k1, k2⟩ := free_rd h3 hf
        have hs := hr s (List.mem_cons_self ..)
        rw [h4] at hs
        refine .cons ⟨b, 0, c.toList, bs, h1, fun k v hk => ?_, (h.lt (some s) b (by rw [h4]; exact List.mem_cons_self ..)).1, k1, fun t ht => hs b (List.mem_cons_self ..) (hφc t b ht), fun b' hb' t ht => ?_⟩
          (caps_rel h hφc hfree hr' fun r hr1 => hr r (List.mem_cons_of_mem _ hr1))
        · simp only [World.cell?, h2, Nat.zero_add]
          simpa using hk
        · rcases k2 b' hb' with g | g
          · exact hs b' (List.mem_cons_of_mem _ g) (hφc t b' ht)
          · exact hfree b' g (hφc t b' ht)
      · cases hx
    · cases hx

theorem argV_apart {g : Nat → Value} (h : RelW φ w0 F0 sl fx ts fv w) {X : List Nat} {φc : Option Nat → List Nat} (hφc : ∀ t, ∀ b ∈ φc t, b ∈ X) (hfree : ∀ b, (∀ t, b ∉ φ t) → b ∉ X)
    {ty : TypeId} {o : Operand} {x y : SV} (hx : opView tb ty sl o = some x) (hy : argV sl x = some y) (hroot : ∀ r ∈ x.roots, ∀ b ∈ φ (some r), b ∉ X) (hagg : ∀ t cs, o = .tmp t → gt sl t = .one (.agg cs) → ∀ b ∈ φ (some t), b ∉ X) :
    SlotRel w φc g (Act.eval ⟨ts, ds⟩ o) [] y := by
  have hrel : flat x = true → SlotRel w φ (valAt ts) (Act.eval ⟨ts, ds⟩ o) [] x := fun hf => opView_rel h hx hf
  unfold argV at hy
  split at hy
  · rename_i c
    cases hy
    exact lent_apart hφc (hrel rfl) (fun b hb => by cases hb) hfree fun r hr => hroot r (by simpa [SV.roots, RV.roots] using hr)
  · rename_i cs
    cases hy
    cases o with
    | tmp t =>
      simp only [opView, Option.some.injEq] at hx
      have hg := gt_rel h t
      have : ∃ cs0, gt sl t = .one (.agg cs0) ∧ cs = cs0.map (resC sl) := by
        unfold view at hx
        split at hx
        · cases hx
        · cases hx
        · rename_i cs0 e
          cases hx
          exact ⟨cs0, e, rfl⟩
        · cases hx
        · rename_i n1 n2 n3 n4
          exact absurd hx (n3 cs)
      obtain ⟨cs0, this, rfl⟩ := this
      have ha := hagg t cs0 rfl this
      rw [this] at hg
      obtain ⟨vs, h1, h2⟩ := hg
      exact ⟨vs, h1, lents_apart hφc (resCs_rel h h2) ha hfree fun r hr => hroot r (by simpa [SV.roots, RV.roots] using hr)⟩
    | const v =>
      simp only [opView] at hx
      unfold constSV at hx
      split at hx <;> first | (cases hx; done) | (split at hx <;> cases hx) | cases hx
    | func f => simp [opView] at hx
    | global g => simp [opView] at hx
  · cases hy; exact ⟨rfl, ptr_apart hφc hfree (hrel rfl).2⟩
  · cases hy
    obtain ⟨-, ps, h1, h2⟩ := hrel rfl
    exact ⟨rfl, ps, h1, ptrs_apart hφc hfree h2⟩
  · rename_i f ss
    simp only [Option.map_eq_some_iff] at hy
    obtain ⟨caps, hy, rfl⟩ := hy
    obtain ⟨-, ps, h1, h2⟩ := hrel rfl
    refine ⟨rfl, ps, h1, ?_⟩
    rw [h2]
    exact caps_rel h hφc hfree hy fun r hr => hroot r (by simpa [SV.roots] using hr)
  · cases hy
end
end Go.Proofs.Ytlffmhhdgedddaa.DL

/- The data level, part 15: one operation, in the walk's own terms. -/
namespace Go.Proofs.Ytlffmhhdgedddaa.DL
open Go Go.RowKit

section
variable {P : Program} {tb : Tb} {φ : Option Nat → List Nat} {w0 w w' : World} {F0 : List Nat} {sl : Sl} {fx : SV} {ts : Array Value} {fv : Value} {ds : List Deferred}

theorem agg_view (h : RelW φ w0 F0 sl fx ts fv w) {ty : TypeId} {o : Operand} {cs : List CV} (hx : opView tb ty sl o = some (.one (.agg cs))) : ∃ vs ψ, Act.eval ⟨ts, ds⟩ o = .agg vs ∧ CVs w φ (valAt ts) vs.toList cs ψ := by
  cases o with
  | tmp t =>
    simp only [opView, Option.some.injEq] at hx
    have hg := gt_rel h t
    have : ∃ cs0, gt sl t = .one (.agg cs0) ∧ cs = cs0.map (resC sl) := by
      unfold view at hx
      split at hx
      · cases hx
      · cases hx
      · rename_i cs0 e
        cases hx
        exact ⟨cs0, e, rfl⟩
      · cases hx
      · rename_i n1 n2 n3 n4
        exact absurd hx (n3 cs)
    obtain ⟨cs0, this, rfl⟩ := this
    rw [this] at hg
    obtain ⟨vs, h1, h2⟩ := hg
    exact ⟨vs, _, h1, resCs_rel h h2⟩
  | const v =>
    simp only [opView] at hx
    unfold constSV at hx
    split at hx <;> first | (cases hx; done) | (split at hx <;> cases hx) | cases hx
  | func f => simp [opView] at hx
  | global g => simp [opView] at hx

theorem eqFsB_len {n : Nat} : ∀ (fs : List Field) (off : Nat), eqFsB P off fs n = true → off + fs.length = n
  | [], off, h => by simpa [eqFsB] using h
  | f :: fs, off, h => by
    simp only [eqFsB, Bool.and_eq_true] at h
    have := eqFsB_len fs (off + 1) h.2
    simp; omega
theorem eqCs_cons {c : CV} {cs es : List CV} {b : Bool} (h : eqCs (c :: cs) es = some b) : ∃ k a k' a' es' b', c = .sc (.int k a) ∧ es = .sc (.int k' a') :: es' ∧ sameK k k' = true ∧ eqCs cs es' = some b' ∧ b = (decide (a = a') && b') := by
  cases es with
  | nil => simp [eqCs] at h
  | cons e es =>
    cases c with
    | sc u =>
      cases u with
      | int k a =>
        cases e with
        | sc v =>
          cases v with
          | int k' a' =>
            simp only [eqCs] at h
            split at h
            · rename_i b' h1 h2
              cases h
              exact ⟨k, a, k', a', es, b', rfl, rfl, h1, h2, rfl⟩
            · cases h
          | _ => simp [eqCs] at h
        | _ => simp [eqCs] at h
      | _ => simp [eqCs] at h
    | _ => simp [eqCs] at h
theorem eqFs_run {f : Nat → Value} (d : Nat) {n : Nat} {xs ys : Array Value} : ∀ (fs : List Field) (off : Nat) {cs es : List CV} {b : Bool} {ψ ψ' : List Nat}, eqFsB P off fs n = true → cs.length = fs.length → eqCs cs es = some b →
    CVs w φ f (xs.toList.drop off) cs ψ → CVs w φ f (ys.toList.drop off) es ψ' → (Op.eqFields (d + 1) xs ys fs).run P w = .ok b w
  | [], off, cs, es, b, ψ, ψ', hf, hl, he, hx, hy => by
    have : cs = [] := List.length_eq_zero_iff.1 hl
    subst this
    cases es with
    | nil => cases he; rfl
    | cons e es => simp [eqCs] at he
  | fd :: fs, off, [], es, b, ψ, ψ', hf, hl, he, hx, hy => by simp at hl
  | fd :: fs, off, c :: cs, es, b, ψ, ψ', hf, hl, he, hx, hy => by
    simp only [eqFsB, Bool.and_eq_true, bne_iff_ne, ne_eq, beq_iff_eq] at hf
    obtain ⟨⟨⟨hn, ho⟩, hu⟩, hf⟩ := hf
    obtain ⟨k0, hu⟩ : ∃ k, P.underlying fd.type = some (.int k) := by
      split at hu
      · rename_i k e; exact ⟨k, e⟩
      · cases hu
    obtain ⟨k, a, k', a', es', b', rfl, rfl, hk, he', rfl⟩ := eqCs_cons he
    have hk := sameK_eq hk
    subst hk
    generalize hX : xs.toList.drop off = X at hx
    generalize hY : ys.toList.drop off = Y at hy
    cases hx with
    | @cons vx _ _ vxs _ _ hx1 hx2 =>
    cases hy with
    | @cons vy _ _ vys _ _ hy1 hy2 =>
    obtain ⟨rfl, -, -⟩ := hx1
    obtain ⟨rfl, -, -⟩ := hy1
    have gx : xs[off]? = some (.int k a) := by
      have : (xs.toList.drop off)[0]? = some (.int k a) := by rw [hX]; rfl
      rw [List.getElem?_drop] at this
      simpa using this
    have gy : ys[off]? = some (.int k a') := by
      have : (ys.toList.drop off)[0]? = some (.int k a') := by rw [hY]; rfl
      rw [List.getElem?_drop] at this
      simpa using this
    have dX : xs.toList.drop (off + 1) = vxs := by rw [← List.tail_drop, hX]; rfl
    have dY : ys.toList.drop (off + 1) = vys := by rw [← List.tail_drop, hY]; rfl
    have ih := eqFs_run (f := f) (xs := xs) (ys := ys) d fs (off + 1) hf (by simpa using hl) he' (by rw [dX]; exact hx2) (by rw [dY]; exact hy2)
    have px : (part fd.type xs fd.offset).run P w = .ok (.int k a) w := by
      rw [ho]; simp [part, isAgg, run_underlying hu, gx]
    have py : (part fd.type ys fd.offset).run P w = .ok (.int k a') w := by
      rw [ho]; simp [part, isAgg, run_underlying hu, gy]
    simp only [Op.eqFields, hn, ne_eq, not_false_eq_true, if_true, Sem.run_bind, px, py, Result.andThen_ok, run_equalIn_int w d fd.type k k0 a a' hu]
    by_cases e : a = a'
    · subst e
      simpa using ih
    · simp [e]

theorem CVs.getSc {f : Nat → Value} {vs : List Value} {cs : List CV} {ψ : List Nat} (j : Nat) {u : Value} (h : CVs w φ f vs cs ψ) : cs[j]? = some (.sc u) → vs[j]? = some u ∧ isSc u = true := by
  induction h generalizing j with
  | nil => intro e; simp at e
  | @cons v c ψ0 vs cs ψs h1 h2 ih =>
    intro e
    cases j with
    | zero =>
      simp only [List.getElem?_cons_zero, Option.some.injEq] at e
      subst e
      obtain ⟨rfl, h3, -⟩ := h1
      exact ⟨rfl, h3⟩
    | succ j =>
      simp only [List.getElem?_cons_succ] at e ⊢
      exact ih j e
theorem elem_sound (hT : TbOk P tb) (h : RelW φ w0 F0 sl fx ts fv w) {t ty : TypeId} {x i : Operand} {cs : List Prop} {r : SV} {sl' : Sl}
    (hx : opV tb sl ty (.index t x i) = some (cs, r, sl')) : Sound P w0 F0 ts ds w (.index t x i) ty r sl' := by
  simp only [opV] at hx
  split at hx
  · rename_i len e as k n hk hp hi
    obtain ⟨e2, -⟩ := opView_sc (ds := ds) h hi
    obtain ⟨vs, ψ, e1, hcs⟩ := agg_view (ds := ds) h hp
    split at hx
    · rename_i ke u he hu
      split at hx
      · rename_i hn
        rw [Bool.and_eq_true, Nat.blt_eq, beq_iff_eq] at hn
        cases hx
        obtain ⟨hv, hs⟩ := hcs.getSc n hu
        rw [Array.getElem?_toList] at hv
        exact sound_see h (yields_val (s := Instr.index t (Act.eval ⟨ts, ds⟩ x) (Act.eval ⟨ts, ds⟩ i)) (fun _ _ _ _ => rfl) (by rw [e1, e2]; exact elem_run hT hk he hn.2 hn.1 hv)) ⟨rfl, hs, rfl⟩
      · cases hx
    · cases hx
  · cases hx
theorem eqA_sound (hT : TbOk P tb) (h : RelW φ w0 F0 sl fx ts fv w) {op : BinOp} {xt yt ty : TypeId} {x y : Operand} {cs es : List CV} {b : Bool} (hx : opView tb ty sl x = some (.one (.agg cs))) (hy : opView tb ty sl y = some (.one (.agg es)))
    (hb : eqA op ((tb xt).eq && cs.length == (tb xt).size) cs es = some b) : Sound P w0 F0 ts ds w (.binOp op xt x y yt) ty (.one (.cell (.sc (.bool b)))) sl := by
  obtain ⟨vs, ψ1, e1, h1⟩ := agg_view (ds := ds) h hx
  obtain ⟨us, ψ2, e2, h2⟩ := agg_view (ds := ds) h hy
  have key : ((tb xt).eq && cs.length == (tb xt).size) = true → ∀ b, eqCs cs es = some b → (eqGuard op xt x y (.agg vs) (.agg us)).run P w = .ok () w ∧ (Op.equalIn 10000 xt (.agg vs) (.agg us)).run P w = .ok b w := fun hc b hb => by
    simp only [Bool.and_eq_true, beq_iff_eq] at hc
    have ht := (hT xt).2 hc.1
    unfold eqTyB at ht
    split at ht
    · rename_i fs hu
      simp only [Bool.and_eq_true, Bool.not_eq_true'] at ht
      obtain ⟨⟨t1, t2⟩, t3⟩ := ht
      have hfs : P.fieldsOf xt = fs := by simp [Program.fieldsOf, hu]
      have hl := eqFsB_len fs.toList 0 t3
      refine ⟨run_eqGuard_agg w op xt x y vs us t2, ?_⟩
      rw [show (10000 : Nat) = 9999 + 1 from rfl, run_equalIn_agg w 9999 xt vs us (by rw [hfs]; exact hu) t1, hfs]
      exact eqFs_run (f := valAt ts) 9998 fs.toList 0 t3 (by omega) hb (by simpa using h1) (by simpa using h2)
    · cases ht
  unfold eqA at hb
  split at hb
  · rename_i hc
    obtain ⟨g1, g2⟩ := key hc b hb
    refine ⟨.bool b, w, _, fun dst pos after guard => .inl ?_, h.see (x := .one (.cell (.sc (.bool b)))) ⟨rfl, rfl, rfl⟩⟩
    simp only [execOp, e1, e2, Sem.run_bind, g1, Result.andThen_ok, run_eql_struct, g2]
    rfl
  · rename_i hc
    simp only [Option.map_eq_some_iff] at hb
    obtain ⟨b', hb, rfl⟩ := hb
    obtain ⟨g1, g2⟩ := key hc b' hb
    refine ⟨.bool (!b'), w, _, fun dst pos after guard => .inl ?_, h.see (x := .one (.cell (.sc (.bool (!b'))))) ⟨rfl, rfl, rfl⟩⟩
    simp only [execOp, e1, e2, Sem.run_bind, g1, Result.andThen_ok, run_neq_struct, g2]
    rfl
  · cases hb

theorem opV_sound (hT : TbOk P tb) (h : RelW φ w0 F0 sl fx ts fv w) {ty : TypeId} {op : Op} {cs : List Prop} {x : SV} {sl' : Sl}
    (hx : opV tb sl ty op = some (cs, x, sl')) (hc : ∀ p ∈ cs, p) : Sound P w0 F0 ts ds w op ty x sl' := by
  cases op with
  | move o => exact move_sound h hx
  | assign o =>
    simp only [opV, Option.map_eq_some_iff, Prod.mk.injEq] at hx
    obtain ⟨⟨y, s⟩, h1, -, h2⟩ := hx
    cases h2
    exact assign_sound h h1
  | alloc e =>
    simp only [opV] at hx
    split at hx
    · cases hx
    · rename_i hk
      cases hx
      exact alloc_sound hT h hk _
  | box e o =>
    simp only [opV] at hx
    split at hx
    · rename_i v s hv
      simp only [Option.map_eq_some_iff, Prod.mk.injEq] at hx
      obtain ⟨c, h1, -, rfl, rfl⟩ := hx
      exact box_sound h hv h1
    · cases hx
  | load t a =>
    simp only [opV] at hx
    split at hx
    · rename_i p hp
      simp only [Option.map_eq_some_iff, Prod.mk.injEq] at hx
      obtain ⟨⟨c, y⟩, h1, rfl, rfl, rfl⟩ := hx
      exact load_sound hT h hp h1 hc
    · cases hx
  | store t a x => exact store_sound hT h hx hc
  | nilCheck x => exact nil_sound h hx
  | binOp op xt x y yt =>
    simp only [opV] at hx
    split at hx
    · rename_i v hn hv
      split at hx
      · rename_i sz es hd
        cases hx
        exact nilEq_sound hT h hn hv hd
      · cases hx
    · cases hx
    · split at hx
      · rename_i u v hu hv
        simp only [Option.map_eq_some_iff, Prod.mk.injEq] at hx
        obtain ⟨⟨c, y⟩, h1, rfl, rfl, rfl⟩ := hx
        exact bin_sound hT h hu hv h1 hc
      · rename_i cs' ds' hu hv
        simp only [Option.map_eq_some_iff, Prod.mk.injEq] at hx
        obtain ⟨r, h1, -, rfl, rfl⟩ := hx
        exact eqA_sound hT h hu hv h1
      · cases hx
  | unOp op xt x =>
    simp only [opV] at hx
    split at hx
    · rename_i u hu
      simp only [Option.map_eq_some_iff, Prod.mk.injEq] at hx
      obtain ⟨r, h1, -, rfl, rfl⟩ := hx
      exact un_sound h hu h1
    · cases hx
  | convert src dst x =>
    simp only [opV] at hx
    split at hx
    · rename_i k u hk hu
      simp only [Option.map_eq_some_iff, Prod.mk.injEq] at hx
      obtain ⟨r, h1, -, rfl, rfl⟩ := hx
      exact conv_sound hT h hu ⟨_, hk⟩ h1
    · rename_i e v hk hu
      simp only [Option.map_eq_some_iff, Prod.mk.injEq] at hx
      obtain ⟨⟨c, y⟩, h1, rfl, rfl, rfl⟩ := hx
      exact convB_sound hT h hk hu h1 hc
    · cases hx
  | makeSlice t l c => exact make_sound hT h hx hc
  | slice t x lo hi mx => exact slice_sound hT h hx hc
  | fieldAddr t x f => exact field_sound hT h hx
  | indexAddr t x i => exact index_sound hT h hx hc
  | index t x i => exact elem_sound hT h hx
  | extract x i => exact extract_sound h hx
  | build t ps => exact build_sound hT h hx
  | buildSlice t len ps => exact buildSlice_sound hT h hx
  | makeFunc fn a b => exact makeFunc_sound h hx
  | _ => cases hx

/-- The frame is of the size it had; what is pinned has not been assigned. -/
def Pin (C : Cfg) (ts0 ts : Array Value) : Prop := ts.size = ts0.size ∧ ∀ t ∈ C.pin, valAt ts t = valAt ts0 t
theorem Pin.put {C : Cfg} {ts0 ts : Array Value} {d : Nat} {v : Value} (h : Pin C ts0 ts) (hd : ∀ t ∈ C.pin, t ≠ d) : Pin C ts0 (ts.setIfInBounds d v) :=
  ⟨by simpa using h.1, fun t ht => by rw [valAt_set_ne (hd t ht)]; exact h.2 t ht⟩
/-- A state of the walk: the slots sl describe the frame; what is pinned has not been assigned. -/
def St (C : Cfg) (w0 : World) (F0 : List Nat) (ts0 : Array Value) (sl : Sl) (a : Act) (w : World) : Prop :=
  ∃ φ fx fv, RelW φ w0 F0 sl fx a.tmps fv w ∧ a.defers = [] ∧ Pin C ts0 a.tmps
def Post (C : Cfg) (w0 : World) (F0 : List Nat) (ts0 : Array Value) (K : Sl → Prop) : Act → World → Prop := fun a w => ∃ sl, K sl ∧ St C w0 F0 ts0 sl a w

variable {C : Cfg} {ts0 : Array Value} {K : Sl → Prop} {Q : Exit → Act → World → Prop}

theorem put_post {dst : Option Nat} {x : SV} {v : Value} {a : Act} (h : RelW φ w0 F0 sl x a.tmps v w) (hd : a.defers = []) (hp : Pin C ts0 a.tmps)
    (hk : putK C.pin sl dst x K) : Post C w0 F0 ts0 K (a.put dst v) w := by
  obtain ⟨h1, h2⟩ := putK_put hk
  cases dst with
  | none => exact ⟨sl, h2, φ, x, v, h, hd, hp⟩
  | some d =>
    obtain ⟨φ', hr⟩ := h.land d
    exact ⟨_, h2, φ', .dead, v, hr, hd, hp.put fun t ht e => h1 t ht (by rw [e])⟩

theorem outK_post {part : Bool} {c : List Prop} {dst : Option Nat} {x : SV} {v : Value} {a : Act} (h : RelW φ w0 F0 sl x a.tmps v w) (hd : a.defers = []) (hp : Pin C ts0 a.tmps)
    (hk : outK C.pin part c x sl dst K) : Post C w0 F0 ts0 K (a.put dst v) w := by
  unfold outK at hk
  rw [conjK_iff] at hk
  have hk := hk.2
  match part, x, h, hk with
  | false, x, h, hk => exact put_post h hd hp (by simpa using hk)
  | true, .dead, h, hk => exact put_post h hd hp hk
  | true, .und, h, hk => exact put_post h hd hp hk
  | true, .tup _, h, hk => exact put_post h hd hp hk
  | true, .box _, h, hk => exact put_post h hd hp hk
  | true, .ptr _ _ _, h, hk => exact put_post h hd hp hk
  | true, .rptr _, h, hk => exact put_post h hd hp hk
  | true, .cloR _ _, h, hk => exact put_post h hd hp hk
  | true, .cloS _ _, h, hk => exact put_post h hd hp hk
  | true, .one (.agg _), h, hk => exact put_post h hd hp hk
  | true, .one (.cell .un), h, hk => exact put_post h hd hp hk
  | true, .one (.cell (.rd _)), h, hk => exact put_post h hd hp hk
  | true, .one (.cell (.own _)), h, hk => exact put_post h hd hp hk
  | true, .one (.cell (.ref _ _ _)), h, hk => exact put_post h hd hp hk
  | true, .one (.cell (.sub _ _ _ _)), h, hk => exact put_post h hd hp hk
  | true, .one (.cell (.nb _)), h, hk => exact put_post h hd hp hk
  | true, .one (.cell (.hd _ _)), h, hk => exact put_post h hd hp hk
  | true, .one (.cell (.vl _ _)), h, hk => exact put_post h hd hp hk
  | true, .one (.cell (.sc v)), h, hk =>
    cases v with
    | bool b =>
      cases b with
      | true => exact put_post h hd hp (hk.1 rfl)
      | false => exact put_post h hd hp (hk.2 rfl)
    | _ => exact put_post h hd hp hk

theorem wp_of_yields {o : Oper} {a : Act} {v : Value} (h : Yields P o.op o.type a.eval w v w') (hk : Post C w0 F0 ts0 K (a.put o.dst v) w') : o.wp P a w (Post C w0 F0 ts0 K) Q := by
  unfold Oper.wp
  rcases h o.dst o.pos o.after o.guard with g | ⟨g, e⟩
  · have : (execOp a.eval o).run P w = .ok (.value v) w' := g
    rw [this]; exact hk
  · have : (execOp a.eval o).run P w = .ok .skip w' := g
    rw [this]; rw [e] at hk; exact hk

/-- Arguments lent to a callee. -/
theorem lent_rel {f g : Nat → Value} {v : Value} {χ : List Nat} {c : CV} (h : CVRel w φ f v χ c) : CVRel w (fun _ => []) g v [] c.lent := by
  cases c with
  | un => exact trivial
  | sc u => exact ⟨h.1, h.2.1, rfl⟩
  | rd d => obtain ⟨-, bs, h1, -⟩ := h; exact ⟨rfl, bs, h1, fun _ _ _ => by simp⟩
  | own d => exact ⟨rfl, χ, Rd.weaken h, fun _ _ _ => by simp⟩
  | ref s p d => obtain ⟨-, -, bs, h1, -⟩ := h; exact ⟨rfl, bs, h1, fun _ _ _ => by simp⟩
  | sub s p lo d => obtain ⟨-, a, n, cap, a', n', cap', bs, -, -, -, h1, -⟩ := h; exact ⟨rfl, bs, h1, fun _ _ _ => by simp⟩
  | vl u d => obtain ⟨-, h0, bs, h1, -⟩ := h; exact ⟨rfl, h0, bs, h1, fun _ _ _ => by simp⟩
  | nb es => exact ⟨rfl, h.2⟩
  | hd s p => exact trivial

theorem lents_rel {f g : Nat → Value} {vs : List Value} {χ : List Nat} {cs : List CV} (h : CVs w φ f vs cs χ) : CVs w (fun _ => []) g vs (cs.map CV.lent) [] := by
  induction h with
  | nil => exact .nil
  | cons h _ ih => simpa using CVs.cons (lent_rel (g := g) h) ih

theorem ptr_lent {v : Value} {es : List DV} (h : PtrRd w φ v es) : PtrRd w (fun _ => []) v es := by
  obtain ⟨b, o, vs, bs, h1, h2, h3, h4, _, _⟩ := h
  exact ⟨b, o, vs, bs, h1, h2, h3, h4, fun _ => by simp, fun _ _ _ => by simp⟩
theorem ptrs_lent {vs : List Value} {cs : List (List DV)} (h : PtrRds w φ vs cs) : PtrRds w (fun _ => []) vs cs := by
  induction h with
  | nil => exact .nil
  | cons h _ ih => exact .cons (ptr_lent h) ih

theorem argV_rel {g : Nat → Value} (h : RelW φ w0 F0 sl fx ts fv w) {ty : TypeId} {o : Operand} {x y : SV} (hx : opView tb ty sl o = some x) (hy : argV sl x = some y) :
    SlotRel w (fun _ => []) g (Act.eval ⟨ts, ds⟩ o) [] y :=
  argV_apart (X := []) h (fun _ b hb => by cases hb) (fun b _ hb => by cases hb) hx hy (fun _ _ b _ hb => by cases hb) (fun _ _ _ _ b _ hb => by cases hb)

theorem argsV_rel {g : Nat → Value} (h : RelW φ w0 F0 sl fx ts fv w) : ∀ (os : List Operand) (tys : List TypeId) (args : List SV), argsV tb sl tys os = some args →
    args.length = os.length ∧ ∀ (i : Nat) (x : SV), args[i]? = some x → ∃ o : Operand, os[i]? = some o ∧ SlotRel w (fun _ => []) g (Act.eval ⟨ts, ds⟩ o) [] x
  | [], tys, args, hx => by
    simp only [argsV, Option.some.injEq] at hx
    subst hx
    exact ⟨rfl, fun i x hi => by simp at hi⟩
  | o :: os, tys, args, hx => by
    simp only [argsV] at hx
    split at hx
    · rename_i v vs h1 h2
      cases hx
      simp only [Option.bind_eq_some_iff] at h1
      obtain ⟨x, h3, h4⟩ := h1
      obtain ⟨g1, g2⟩ := argsV_rel h os _ vs h2
      refine ⟨by simp [g1], fun i y hi => ?_⟩
      cases i with
      | zero =>
        simp only [List.getElem?_cons_zero, Option.some.injEq] at hi
        subst hi
        exact ⟨o, rfl, argV_rel h h3 h4⟩
      | succ i =>
        simp only [List.getElem?_cons_succ] at hi
        obtain ⟨o', g3, g4⟩ := g2 i y hi
        exact ⟨o', by simpa using g3, g4⟩
    · cases hx

theorem exCs_all : ∀ (zs : List CV) {K : List CV → Prop}, exCs zs K → ∃ cs, K cs ∧ cs.length = zs.length ∧ (zs.all CV.fitR = true → cs.all CV.fitR = true) ∧ sameV zs cs
  | [], K, h => ⟨[], h, rfl, fun _ => rfl, fun j u d hj => by simp at hj⟩
  | z :: zs, K, h => by
    have same : (exCs zs fun cs => K (z :: cs)) → ∃ cs, K cs ∧ cs.length = (z :: zs).length ∧ ((z :: zs).all CV.fitR = true → cs.all CV.fitR = true) ∧ sameV (z :: zs) cs := fun h => by
      obtain ⟨cs, h, l, g, q⟩ := exCs_all zs h
      refine ⟨_, h, by simp [l], fun hz => by simp only [List.all_cons, Bool.and_eq_true] at hz ⊢; exact ⟨hz.1, g hz.2⟩, fun j u d hj => ?_⟩
      cases j with
      | zero => simpa using hj
      | succ j => simpa using q j u d (by simpa using hj)
    have other : ∀ y : CV, (∀ u d, y ≠ .vl u d) → (z.fitR = true → y.fitR = true) → (exCs zs fun cs => K (y :: cs)) → ∃ cs, K cs ∧ cs.length = (z :: zs).length ∧ ((z :: zs).all CV.fitR = true → cs.all CV.fitR = true) ∧ sameV (z :: zs) cs := fun y hn hy h => by
      obtain ⟨cs, h, l, g, q⟩ := exCs_all zs h
      refine ⟨_, h, by simp [l], fun hz => by simp only [List.all_cons, Bool.and_eq_true] at hz ⊢; exact ⟨hy hz.1, g hz.2⟩, fun j u d hj => ?_⟩
      cases j with
      | zero => exact absurd (by simpa using hj) (hn u d)
      | succ j => simpa using q j u d (by simpa using hj)
    cases z with
    | un => exact same h
    | sc v => cases v with
      | int k n => obtain ⟨n, h⟩ := h; exact other _ (fun _ _ e => by cases e) (fun _ => rfl) h
      | bool n => obtain ⟨n, h⟩ := h; exact other _ (fun _ _ e => by cases e) (fun _ => rfl) h
      | string n => obtain ⟨n, h⟩ := h; exact other _ (fun _ _ e => by cases e) (fun _ => rfl) h
      | _ => exact same h
    | rd d => cases d with
      | val v => exact same h
      | sl sz es => obtain ⟨n, h⟩ := h; exact other (.rd (.sl sz n)) (fun _ _ e => by cases e) (fun hz => hz) h
    | own d => cases d with
      | val v => exact same h
      | sl sz es => obtain ⟨n, h⟩ := h; exact other (.own (.sl sz n)) (fun _ _ e => by cases e) (fun hz => hz) h
    | ref s p d => exact same h
    | sub s p lo d => exact same h
    | nb es => exact same h
    | hd s p => exact same h
    | vl u d => exact same h
theorem exCs_ex (zs : List CV) {K : List CV → Prop} (h : exCs zs K) : ∃ cs, K cs ∧ cs.length = zs.length ∧ (zs.all CV.fitR = true → cs.all CV.fitR = true) := by
  obtain ⟨cs, h1, h2, h3, -⟩ := exCs_all zs h
  exact ⟨cs, h1, h2, h3⟩
theorem splitCs_self : ∀ (cs : List CV) {K : List CV → Prop}, splitCs cs K → K cs
  | [], K, h => h
  | c :: cs, K, h => by
    have same : (splitCs cs fun cs => K (c :: cs)) → K (c :: cs) := fun h => splitCs_self cs h
    cases c with
    | sc v => cases v with
      | bool b => cases b with
        | true => exact same (h.1 rfl)
        | false => exact same (h.2 rfl)
      | _ => exact same h
    | _ => exact same h
theorem splitS_self {sp : Bool} {cs : List CV} {K : List CV → Prop} (h : splitS sp cs K) : K cs := by
  unfold splitS at h
  split at h
  · exact h
  · exact splitCs_self _ h


theorem CVRel.fit {f g : Nat → Value} {φ2 : Option Nat → List Nat} {v : Value} {χ : List Nat} {c : CV} (h : CVRel w φ f v χ c) (hf : c.fit = true) : CVRel w φ2 g v χ c := by
  cases c with
  | sc u => exact h
  | own d => exact h
  | _ => simp [CV.fit] at hf
theorem CVs.fitTo {f g : Nat → Value} {φ2 : Option Nat → List Nat} {vs : List Value} {χ : List Nat} {cs : List CV} (h : CVs w φ f vs cs χ) (hf : cs.all CV.fit = true) : CVs w φ2 g vs cs χ := by
  induction h with
  | nil => exact .nil
  | cons h _ ih =>
    simp only [List.all_cons, Bool.and_eq_true] at hf
    exact .cons (h.fit hf.1) (ih hf.2)
def RV.fit : RV → Bool
  | .cell c => c.fit
  | .agg cs => cs.all CV.fit
theorem RVRel.fitTo {f g : Nat → Value} {φ2 : Option Nat → List Nat} {v : Value} {χ : List Nat} {r : RV} (h : RVRel w φ f v χ r) (hf : r.fit = true) : RVRel w φ2 g v χ r := by
  cases r with
  | cell c => exact CVRel.fit h hf
  | agg cs => obtain ⟨vs, h1, h2⟩ := h; exact ⟨vs, h1, h2.fitTo hf⟩
theorem RVs.fitTo {f g : Nat → Value} {φ2 : Option Nat → List Nat} {vs : List Value} {χ : List Nat} {rs : List RV} (h : RVs w φ f vs rs χ) (hf : rs.all RV.fit = true) : RVs w φ2 g vs rs χ := by
  induction h with
  | nil => exact .nil
  | cons h _ ih =>
    simp only [List.all_cons, Bool.and_eq_true] at hf
    exact .cons (h.fitTo hf.1) (ih hf.2)

def RV.fitR : RV → Bool
  | .cell c => c.fitR
  | .agg cs => cs.all CV.fitR
theorem chop_fit : ∀ (rs : List (Bool × List CV)) (cs : List CV), cs.all CV.fitR = true → cs.length = (rs.flatMap (·.2)).length → (∀ r ∈ rs, r.2 ≠ []) → (chop rs cs).all RV.fitR = true
  | [], _, _, _, _ => rfl
  | (a, zs) :: rs, cs, h, hl, hn => by
    simp only [chop, List.all_cons, Bool.and_eq_true]
    have hz : zs ≠ [] := hn (a, zs) (List.mem_cons_self ..)
    have hl' : cs.length = zs.length + (rs.flatMap (·.2)).length := by rw [hl, List.flatMap_cons, List.length_append]
    have hle : zs.length ≤ cs.length := by omega
    refine ⟨?_, chop_fit rs _ ?_ ?_ fun r hr => hn r (List.mem_cons_of_mem _ hr)⟩
    · have ht : (cs.take zs.length).all CV.fitR = true := List.all_eq_true.2 fun c hc => List.all_eq_true.1 h c (List.mem_of_mem_take hc)
      unfold mkRV
      split
      · exact ht
      · have : 0 < zs.length := List.length_pos_iff.2 hz
        cases hct : cs.take zs.length with
        | nil => have := congrArg List.length hct; rw [List.length_take] at this; simp only [List.length_nil] at this; omega
        | cons c r => rw [hct] at ht; simp only [List.all_cons, Bool.and_eq_true] at ht; exact ht.1
    · exact List.all_eq_true.2 fun c hc => List.all_eq_true.1 h c (List.mem_of_mem_drop hc)
    · rw [List.length_drop]; omega

end

end Go.Proofs.Ytlffmhhdgedddaa.DL

/- The data level, part 16: an operation, with calls. -/
namespace Go.Proofs.Ytlffmhhdgedddaa.DL
open Go Go.RowKit

/-- What an operation whose guard is met brings: x into its slot, sl' the slots then. -/
def OutR0 (P : Program) (C : Cfg) (sl : Sl) (o : Oper) (x : SV) (sl' : Sl) : Prop :=
  match o.op with
  | .pick c a b => ∃ t u, opView C.tb o.type sl c = some (.one (.cell (.sc (.bool t)))) ∧ opView C.tb o.type sl (if t then a else b) = some (.one (.cell (.sc u))) ∧
      x = .one (.cell (.sc u)) ∧ sl' = sl
  | .call c => match c.callee with
    | .value (.func f) => ∃ args cs, argsV C.tb sl c.argTypes.toList c.args.toList = some args ∧ (C.sg f).ok = true ∧ cs.length = (C.sg f).cells.length ∧ cs.all CV.fitR = true ∧
        CallD P f args (fun r _ => r = (C.sg f).mk (cs.map CV.asOwn)) ∧ x = (C.sg f).mk cs ∧ sl' = sl
    | .builtin .len => ∃ t y n, c.argTypes.toList = [t] ∧ c.args.toList = [y] ∧ lenK (C.tb t).k (opView C.tb t sl y) = some n ∧
        x = .one (.cell (.sc (.int .i64 n))) ∧ sl' = sl
    | .builtin b => ∃ mx y z u v r, minMax b = some mx ∧ c.args.toList = [y, z] ∧ opView C.tb o.type sl y = some u ∧ opView C.tb o.type sl z = some v ∧ minMaxV mx u v = some r ∧
        x = .one (.cell (.sc r)) ∧ sl' = sl
    | _ => False
  | op => ∃ cs, opV C.tb sl o.type op = some (cs, x, sl') ∧ ∀ p ∈ cs, p

section
variable {P : Program} {C : Cfg} {sl : Sl} {o : Oper} {K : Sl → Prop}

theorem outK_all {part : Bool} {c : List Prop} {dst : Option Nat} {x : SV} (hk : outK C.pin part c x sl dst K) : (∀ p ∈ c, p) ∧ putK C.pin sl dst x K := by
  unfold outK at hk
  rw [conjK_iff] at hk
  refine ⟨hk.1, ?_⟩
  have hk := hk.2
  cases part with
  | false => simpa using hk
  | true =>
    cases x with
    | one r => cases r with
      | cell c => cases c with
        | sc v => cases v with
          | bool b => cases b with
            | true => exact hk.1 rfl
            | false => exact hk.2 rfl
          | _ => exact hk
        | _ => exact hk
      | _ => exact hk
    | _ => exact hk

theorem opK0_out (h : opK0 P C sl o K) : ∃ x sl', OutR0 P C sl o x sl' ∧ putK C.pin sl' o.dst x K := by
  have rest : ∀ op, o.op = op → (match opV C.tb sl o.type op with
      | some (c, x, sl') => forceL sl' fun sl' => outK C.pin (parts op && !C.sp) c x sl' o.dst K
      | none => False) → ∃ x sl', (∃ cs, opV C.tb sl o.type op = some (cs, x, sl') ∧ ∀ p ∈ cs, p) ∧ putK C.pin sl' o.dst x K := by
    intro op _ h
    split at h
    · rename_i c x sl' he
      rw [forceL_eq] at h
      obtain ⟨h1, h2⟩ := outK_all h
      exact ⟨x, sl', ⟨c, he, h1⟩, h2⟩
    · exact h.elim
  unfold opK0 at h
  unfold OutR0
  generalize ho : o.op = op at h
  cases op with
  | pick c a b =>
    dsimp only at h ⊢
    split at h
    · rename_i hc
      split at h
      · rename_i u hu
        exact ⟨_, _, ⟨true, u, hc, hu, rfl, rfl⟩, h⟩
      · exact h.elim
    · rename_i hc
      split at h
      · rename_i u hu
        exact ⟨_, _, ⟨false, u, hc, hu, rfl, rfl⟩, h⟩
      · exact h.elim
    · exact h.elim
  | call c =>
    dsimp only at h ⊢
    cases hcal : c.callee with
    | value f =>
      rw [hcal] at h
      cases f with
      | func f =>
        dsimp only at h ⊢
        split at h
        · rename_i args ha
          unfold callK at h
          split at h
          · exact h.elim
          · rename_i hok
            simp only [Bool.not_eq_false, Bool.and_eq_true] at hok
            obtain ⟨cs, ⟨h1, h2⟩, h3, h4⟩ := exCs_ex _ h
            exact ⟨_, _, ⟨args, cs, ha, hok.1, h3, h4 hok.2, h1, rfl, rfl⟩, splitS_self h2⟩
        · exact h.elim
      | _ => exact h.elim
    | invoke r m => rw [hcal] at h; exact h.elim
    | builtin b =>
      rw [hcal] at h
      cases b with
      | len =>
        dsimp only at h ⊢
        split at h
        · rename_i t y ht hy
          split at h
          · rename_i n hn
            exact ⟨_, _, ⟨t, y, n, ht, hy, hn, rfl, rfl⟩, h⟩
          · exact h.elim
        · exact h.elim
      | _ =>
        dsimp only at h ⊢
        split at h
        · rename_i mx y z hm hyz
          split at h
          · rename_i u v hu hv
            split at h
            · rename_i r hr
              exact ⟨_, _, ⟨mx, y, z, u, v, r, hm, hyz, hu, hv, hr, rfl, rfl⟩, h⟩
            · exact h.elim
          · exact h.elim
        · exact h.elim
  | _ => exact rest _ ho h
end

/- A callee's own data, taken for reading alone. -/
section
variable {w : World} {φ : Option Nat → List Nat} {f g : Nat → Value}
theorem CVRel.demote {v : Value} {ψ : List Nat} {c : CV} (h : CVRel w φ f v ψ c.asOwn) (hf : c.fitR = true) :
    ∃ ψ', ψ'.Sublist ψ ∧ ∀ φ3, (∀ b ∈ ψ, b ∉ ψ' → ∀ t, b ∉ φ3 t) → CVRel w φ3 g v ψ' c := by
  cases c with
  | sc u => exact ⟨ψ, List.Sublist.refl _, fun _ _ => h⟩
  | own d => exact ⟨ψ, List.Sublist.refl _, fun _ _ => h⟩
  | rd d => exact ⟨[], List.nil_sublist _, fun φ3 h3 => ⟨rfl, ψ, Rd.weaken h, fun b hb => h3 b hb (by simp)⟩⟩
  | _ => simp [CV.fitR] at hf
theorem CVs.demote {vs : List Value} {χ : List Nat} : ∀ {cs : List CV}, CVs w φ f vs (cs.map CV.asOwn) χ → cs.all CV.fitR = true → χ.Nodup →
    ∃ χ', χ'.Sublist χ ∧ ∀ φ3, (∀ b ∈ χ, b ∉ χ' → ∀ t, b ∉ φ3 t) → CVs w φ3 g vs cs χ'
  | [], h, _, _ => by cases h; exact ⟨[], List.Sublist.refl _, fun _ _ => .nil⟩
  | c :: cs, h, hf, hn => by
    cases h with
    | cons h1 h2 =>
      rename_i v ψ vs ψs
      simp only [List.all_cons, Bool.and_eq_true] at hf
      obtain ⟨n1, n2, n3⟩ := List.nodup_append.1 hn
      obtain ⟨ψ', s1, k1⟩ := CVRel.demote (g := g) h1 hf.1
      obtain ⟨χ', s2, k2⟩ := CVs.demote h2 hf.2 n2
      refine ⟨ψ' ++ χ', s1.append s2, fun φ3 h3 => .cons (k1 φ3 fun b hb hb' => ?_) (k2 φ3 fun b hb hb' => ?_)⟩
      · exact h3 b (List.mem_append_left _ hb) fun hm => (List.mem_append.1 hm).elim hb' fun hm => n3 b hb b (s2.subset hm) rfl
      · exact h3 b (List.mem_append_right _ hb) fun hm => (List.mem_append.1 hm).elim (fun hm => n3 b (s1.subset hm) b hb rfl) hb'
def RV.asOwn : RV → RV
  | .cell c => .cell c.asOwn
  | .agg cs => .agg (cs.map CV.asOwn)
theorem RVRel.demote {v : Value} {ψ : List Nat} {r : RV} (h : RVRel w φ f v ψ r.asOwn) (hf : r.fitR = true) (hn : ψ.Nodup) :
    ∃ ψ', ψ'.Sublist ψ ∧ ∀ φ3, (∀ b ∈ ψ, b ∉ ψ' → ∀ t, b ∉ φ3 t) → RVRel w φ3 g v ψ' r := by
  cases r with
  | cell c => exact CVRel.demote h hf
  | agg cs =>
    obtain ⟨vs, h1, h2⟩ := h
    obtain ⟨χ', s1, k1⟩ := CVs.demote (g := g) h2 hf hn
    exact ⟨χ', s1, fun φ3 h3 => ⟨vs, h1, k1 φ3 h3⟩⟩
theorem RVs.demote {vs : List Value} {χ : List Nat} : ∀ {rs : List RV}, RVs w φ f vs (rs.map RV.asOwn) χ → rs.all RV.fitR = true → χ.Nodup →
    ∃ χ', χ'.Sublist χ ∧ ∀ φ3, (∀ b ∈ χ, b ∉ χ' → ∀ t, b ∉ φ3 t) → RVs w φ3 g vs rs χ'
  | [], h, _, _ => by cases h; exact ⟨[], List.Sublist.refl _, fun _ _ => .nil⟩
  | c :: cs, h, hf, hn => by
    cases h with
    | cons h1 h2 =>
      rename_i v ψ vs ψs
      simp only [List.all_cons, Bool.and_eq_true] at hf
      obtain ⟨n1, n2, n3⟩ := List.nodup_append.1 hn
      obtain ⟨ψ', s1, k1⟩ := RVRel.demote (g := g) h1 hf.1 n1
      obtain ⟨χ', s2, k2⟩ := RVs.demote h2 hf.2 n2
      refine ⟨ψ' ++ χ', s1.append s2, fun φ3 h3 => .cons (k1 φ3 fun b hb hb' => ?_) (k2 φ3 fun b hb hb' => ?_)⟩
      · exact h3 b (List.mem_append_left _ hb) fun hm => (List.mem_append.1 hm).elim hb' fun hm => n3 b hb b (s2.subset hm) rfl
      · exact h3 b (List.mem_append_right _ hb) fun hm => (List.mem_append.1 hm).elim (fun hm => n3 b (s1.subset hm) b hb rfl) hb'

theorem mkRV_asOwn (a : Bool) (cs : List CV) : mkRV a (cs.map CV.asOwn) = (mkRV a cs).asOwn := by
  unfold mkRV
  split
  · rfl
  · cases cs <;> rfl
theorem chop_asOwn : ∀ (rs : List (Bool × List CV)) (cs : List CV), chop rs (cs.map CV.asOwn) = (chop rs cs).map RV.asOwn
  | [], _ => rfl
  | (a, zs) :: rs, cs => by simp only [chop, List.map_cons, ← List.map_take, ← List.map_drop, mkRV_asOwn, chop_asOwn rs]

theorem mk_rel {v : Value} {χ : List Nat} {rs : RS} {cs : List CV} (hok : rs.ok = true) (hl : cs.length = rs.cells.length)
    (hf : cs.all CV.fitR = true) (hn : χ.Nodup) (h : SlotRel w φ f v χ (rs.mk (cs.map CV.asOwn))) :
    ∃ χ', χ'.Sublist χ ∧ ∀ φ3, (∀ b ∈ χ, b ∉ χ' → ∀ t, b ∉ φ3 t) → SlotRel w φ3 g v χ' (rs.mk cs) := by
  cases rs with
  | one a zs =>
    have h : RVRel w φ f v χ (mkRV a (cs.map CV.asOwn)) := h
    rw [mkRV_asOwn] at h
    refine RVRel.demote (r := mkRV a cs) h ?_ hn
    unfold mkRV
    split
    · exact hf
    · rename_i ha
      simp only [RS.ok, Bool.or_eq_true, ha, Bool.not_eq_true', List.isEmpty_eq_false_iff] at hok
      simp only [RS.cells] at hl
      cases cs with
      | nil => exact absurd (List.length_eq_zero_iff.1 hl.symm) (hok.resolve_left (by simp))
      | cons c cs => simp only [List.all_cons, Bool.and_eq_true] at hf; exact hf.1
  | tup rs =>
    obtain ⟨vs, h1, h2⟩ := h
    rw [chop_asOwn] at h2
    obtain ⟨χ', s1, k1⟩ := RVs.demote (g := g) h2 (chop_fit rs cs hf hl fun r hr => by
      have := List.all_eq_true.1 hok r hr
      simpa using this) hn
    exact ⟨χ', s1, fun φ3 h3 => ⟨vs, h1, k1 φ3 h3⟩⟩
  | bx zs => cases hok
end

section
variable {P : Program} {C : Cfg} {φ : Option Nat → List Nat} {w0 w w' : World} {F0 : List Nat} {sl : Sl} {fx : SV} {ts : Array Value} {fv : Value} {ds : List Deferred} {Q : Exit → Act → World → Prop}

theorem argsRel (h : RelW φ w0 F0 sl fx ts fv w) {os : Array Operand} {tys : List TypeId} {args : List SV} (ha : argsV C.tb sl tys os.toList = some args) :
    RelW (fun _ => []) w [] args .dead (os.map (Act.eval ⟨ts, ds⟩)) undef w := by
  obtain ⟨h1, h2⟩ := argsV_rel (g := valAt (os.map (Act.eval ⟨ts, ds⟩))) h (ds := ds) os.toList tys args ha
  refine ⟨by simpa using h1.symm, fun t x hx => ?_, fun _ => List.nodup_nil, fun _ _ _ b hb => (by cases hb), fun _ b hb => (by cases hb), Ext.refl _ _⟩
  cases t with
  | none => cases hx; exact trivial
  | some t =>
    obtain ⟨o, h3, h4⟩ := h2 t x hx
    have h3' : os[t]? = some o := by simpa using h3
    have : vget (os.map (Act.eval ⟨ts, ds⟩)) undef (some t) = Act.eval ⟨ts, ds⟩ o := by simp [vget, valAt, h3']
    rw [this]
    exact h4

theorem rd_len {o : Bool} {v : Value} {sz : Nat} {es : List DV} {bs : List Nat} (h : Rd o w [v] [.sl sz es] bs) : ∃ a n cap, v = .slice a n cap ∧ (DV.sl sz es).n = n := by
  cases h with
  | e0 _ _ => exact ⟨_, _, _, rfl, by rw [DV.n_eq]; simp⟩
  | sl _ _ _ h4 h5 _ _ => exact ⟨_, _, _, rfl, by rw [DV.n_eq, h4]; exact Nat.mul_div_cancel _ h5.1⟩

theorem asBool_run (b : Bool) (w : World) : (asBool (.bool b)).run P w = .ok b w := by simp [asBool]

theorem sliceD_rel {g : Nat → Value} {v : Value} {χ : List Nat} {x : SV} {d : DV} (hd : sliceD x = some d) (h : SlotRel w φ g v χ x) : ∃ o bs, Rd o w [v] [d] bs := by
  unfold sliceD at hd
  split at hd
  · cases hd; exact ⟨_, _, h⟩
  · cases hd; obtain ⟨-, bs, h1, -⟩ := h; exact ⟨_, _, h1⟩
  · cases hd; obtain ⟨-, -, bs, h1, -⟩ := h; exact ⟨_, _, h1⟩
  · cases hd; obtain ⟨-, a, n, cap, a', n', cap', bs, -, -, -, h1, -⟩ := h; exact ⟨_, _, h1⟩
  · cases hd; obtain ⟨-, -, bs, h1, -⟩ := h; exact ⟨_, _, h1⟩
  · cases hd

theorem len_run (hT : TbOk P C.tb) (h : RelW φ w0 F0 sl fx ts fv w) {t : TypeId} {y : Operand} {n : Int} (hn : lenK (C.tb t).k (opView C.tb t sl y) = some n) :
    ∀ (ats : Array TypeId) (ty : TypeId) (as : Array Value), ats[0]? = some t → as[0]? = some (Act.eval ⟨ts, ds⟩ y) → Sem.run P (Builtin.len_ ats ty as) w = .ok (.int .i64 n) w := by
  intro ats ty as e1 e2
  unfold lenK at hn
  split at hn
  · rename_i b hk hv
    have hu : P.underlying t = some .string := (tiOf hT hk).2.2.2.2.1
    obtain ⟨g1, -, -⟩ := opView_rel (ds := ds) h hv rfl
    cases hn
    simp [Builtin.len_, e1, e2, Sem.run_bind, run_underlying hu, g1, goInt]
  · rename_i e x hk hv
    have hu : P.underlying t = some (.slice e) := (tiOf hT hk).2.2.2.2.1
    simp only [Option.bind_eq_some_iff] at hn
    obtain ⟨d, h1, h2⟩ := hn
    have hf : flat x = true := by
      unfold sliceD at h1
      split at h1 <;> first | rfl | cases h1
    obtain ⟨o, bs, h3⟩ := sliceD_rel h1 (opView_rel (ds := ds) h hv hf)
    cases d with
    | val u => cases h2
    | sl sz es =>
      cases h2
      obtain ⟨a, n, cap, g1, g2⟩ := rd_len h3
      simp [Builtin.len_, e1, e2, Sem.run_bind, run_underlying hu, g1, g2, goInt]
  · cases hn

/-- An operation, as the walk wants it. -/
theorem out0_wp (hT : TbOk P C.tb) {o : Oper} {x : SV} {sl' : Sl} (ho : OutR0 P C sl o x sl') (h : RelW φ w0 F0 sl fx ts fv w) {K : Act → World → Prop}
    (hK : ∀ v w' φ', RelW φ' w0 F0 sl' x ts v w' → K (Act.put ⟨ts, ds⟩ o.dst v) w') : o.wp P ⟨ts, ds⟩ w K Q := by
  have rest : ∀ op, o.op = op → (∃ cs, opV C.tb sl o.type op = some (cs, x, sl') ∧ ∀ p ∈ cs, p) → o.wp P ⟨ts, ds⟩ w K Q := by
    intro op e ⟨cs, h1, h2⟩
    obtain ⟨v, w', φ', h3, h4⟩ := opV_sound (ds := ds) hT h h1 h2
    rcases h3 o.dst o.pos o.after o.guard with g | ⟨g, e'⟩
    · have : (execOp (Act.eval ⟨ts, ds⟩) o).run P w = .ok (.value v) w' := by rw [← g, ← e]
      unfold Oper.wp; rw [this]; exact hK _ _ _ h4
    · have : (execOp (Act.eval ⟨ts, ds⟩) o).run P w = .ok .skip w' := by rw [← g, ← e]
      unfold Oper.wp; rw [this]; subst e'; exact hK _ _ _ h4
  unfold OutR0 at ho
  generalize he : o.op = op at ho
  cases op with
  | pick c a b =>
    obtain ⟨t, u, h1, h2, rfl, rfl⟩ := ho
    have g1 := opView_rel (ds := ds) h h1 rfl
    have g2 := opView_rel (ds := ds) h h2 rfl
    obtain ⟨g1, -, -⟩ := g1
    have : (execOp (Act.eval ⟨ts, ds⟩) o).run P w = .ok (.value (Act.eval ⟨ts, ds⟩ (if t then a else b))) w := by
      simp only [execOp, he, g1, Sem.run_bind, asBool_run]
      cases t <;> rfl
    unfold Oper.wp; rw [this]
    exact hK _ _ _ (h.see g2)
  | call c =>
    dsimp only at ho
    cases hcal : c.callee with
    | value f =>
      rw [hcal] at ho
      cases f with
      | func f =>
        obtain ⟨args, cs, h1, h2, h3, h4, h5, rfl, rfl⟩ := ho
        obtain ⟨⟨fn, c1, c2, c3⟩, h6⟩ := h5
        have c2' : fn.name ≠ "runtime.NumGoroutine" := by simpa using c2
        have c3' : fn.body ≠ none := fun e => by rw [e] at c3; cases c3
        have hrun : (execOp (Act.eval ⟨ts, ds⟩) o).run P w = .ok (.enter f (c.args.map (Act.eval ⟨ts, ds⟩))) w := by
          simp [execOp, he, resolve, hcal, Act.eval, Deferred.ofValue, invoke, callFunc, c1, c2', c3']
        unfold Oper.wp; rw [hrun]
        have hz : ((List.range args.length).flatMap fun t => (fun _ => [] : Option Nat → List Nat) (some t)) = [] := by simp
        have := h6 w (c.args.map (Act.eval ⟨ts, ds⟩)) (fun _ => []) (by rw [hz]; exact argsRel h h1) rfl
        rw [hz] at this
        refine this.mono fun e w' ⟨v, r, args', φ', e1, e2, e3, e4⟩ => ?_
        subst e1 e2
        obtain ⟨χ', s1, k1⟩ := mk_rel (g := valAt ts) h2 h3 h4 (e4.nd none) (e4.slot none _ rfl)
        have new : ∀ b ∈ φ' none, w.heap.size ≤ b ∧ b < w'.heap.size := fun b hb => by
          refine ⟨?_, (e4.lt none b hb).1⟩
          rcases (e4.lt none b hb).2 with g | g
          · exact g
          · cases g
        refine hK v w' _ (h.fresh e4.ext (ψ := χ') (s1.nodup (e4.nd none)) (fun b hb => new b (s1.subset hb)) (k1 _ fun b hb hb' t ht => ?_))
        cases t with
        | none => exact hb' ht
        | some t => have := (h.lt (some t) b ht).1; have := (new b hb).1; omega
      | _ => exact ho.elim
    | invoke r m => rw [hcal] at ho; exact ho.elim
    | builtin b =>
      rw [hcal] at ho
      cases b with
      | len =>
        obtain ⟨t, y, n, h0, h1, h2, rfl, rfl⟩ := ho
        have h0' : c.argTypes[0]? = some t := by rw [← Array.getElem?_toList, h0]; rfl
        have h1' : c.args[0]? = some y := by rw [← Array.getElem?_toList, h1]; rfl
        have hrun : (execOp (Act.eval ⟨ts, ds⟩) o).run P w = .ok (.value (.int .i64 n)) w := by
          have := len_run (ds := ds) hT h h2 c.argTypes o.type (c.args.map (Act.eval ⟨ts, ds⟩)) h0' (by simp [h1'])
          simp only [execOp, he, resolve, hcal, invoke, builtin, Sem.run_bind, Sem.run_pure, Result.andThen_ok, this]
        unfold Oper.wp; rw [hrun]
        exact hK _ _ _ (h.see ⟨rfl, rfl, rfl⟩)
      | _ =>
        obtain ⟨mx, y, z, u, v, r, h0, h1, h2, h3, h4, rfl, rfl⟩ := ho
        unfold minMaxV at h4
        split at h4
        · rename_i k a k' b
          split at h4
          · rename_i hk
            have hk := sameK_eq hk
            subst hk
            cases h4
            obtain ⟨g1, -⟩ := opView_sc (ds := ds) h h2
            obtain ⟨g2, -⟩ := opView_sc (ds := ds) h h3
            have e1 : List.map (Act.eval ⟨ts, ds⟩) c.args.toList = [.int k a, .int k b] := by simp [h1, g1, g2]
            have hrun : (execOp (Act.eval ⟨ts, ds⟩) o).run P w = .ok (.value (.int k (if mx = true then (if a < b then b else a) else (if b < a then b else a)))) w := by
              first
                | (cases h0; done)
                | (cases h0
                   simp [execOp, he, resolve, hcal, invoke, builtin, Builtin.min_, Builtin.max_, e1, Builtin.min2, Builtin.max2])
            unfold Oper.wp; rw [hrun]
            exact hK _ _ _ (h.see (x := .one (.cell (.sc _))) ⟨rfl, rfl, rfl⟩)
          · cases h4
        · cases h4
  | _ => exact rest _ he ho
end
end Go.Proofs.Ytlffmhhdgedddaa.DL

/- The data level, part 16a: operations that write, or move; every operation. -/
namespace Go.Proofs.Ytlffmhhdgedddaa.DL
open Go Go.RowKit

/-- What is asked of a call that writes through an argument. -/
structure IoR (P : Program) (C : Cfg) (sl : Sl) (f : FuncId) (i : Nat) (tys : List TypeId) (os : List Operand) (c : List Prop) (s : Nat) (p : List Nat) (y x0 : SV) (zs : List CV) (xo : Operand) (as : List SV) (cs ws : List CV) : Prop where
  hxo : os[i]? = some xo
  hx0 : opView C.tb (tys.getD i 0) sl xo = some x0
  hio : ioV sl x0 = some (c, s, p, y, zs)
  has : argsIo C.tb sl s i y 0 tys os = some as
  hok : (C.sg f).ok = true
  hcl : cs.length = (C.sg f).cells.length
  hcf : cs.all CV.fitR = true
  hwl : ws.length = zs.length ∧ sameV zs ws
  hwf : ws.all CV.fitV = true
  hc : ∀ q ∈ c, q
  call : CallD P f as fun r bs => r = (C.sg f).mk (cs.map CV.asOwn) ∧ bs.getD i .dead = ioSV y ws

/-- What is asked of a call that takes what argument i owns. -/
structure GvR (P : Program) (C : Cfg) (sl : Sl) (f : FuncId) (i : Nat) (tys : List TypeId) (os : List Operand) (t sz : Nat) (es : List DV) (as : List SV) (cs : List CV) : Prop where
  hxo : os[i]? = some (.tmp t)
  hgt : gt sl t = .one (.cell (.own (.sl sz es)))
  has : argsIo C.tb sl t i (.one (.cell (.own (.sl sz es)))) 0 tys os = some as
  hok : (C.sg f).ok = true
  hcl : cs.length = (C.sg f).cells.length
  hcf : cs.all CV.fitR = true
  call : CallD P f as fun r _ => r = (C.sg f).mk (cs.map CV.asOwn)

/-- What is asked of a call that gives a cut of a header. -/
def CtR (P : Program) (C : Cfg) (sl : Sl) (f : FuncId) (i j : Nat) (tys : List TypeId) (os : List Operand) (x : SV) : Prop :=
  ∃ y cs sz es as, ∃ lo hi : Int, os[i]? = some y ∧ opView C.tb (tys.getD i 0) sl y = some (.one (.agg cs)) ∧ argsV C.tb sl tys os = some as ∧ ctD (cs.getD j .un) = some (.sl sz es) ∧ (0 ≤ lo ∧ lo ≤ hi ∧ hi ≤ (DV.sl sz es).n) ∧
    (∀ u : Value, CallD P f (as.set i (.one (.agg ((cs.map CV.lent).set j (.vl u (.sl sz es)))))) fun r _ => r = .one (.cell (.vl (cutW sz u lo.toNat hi.toNat) (cutD (.sl sz es) lo.toNat hi.toNat)))) ∧
    x = .one (.cell (ctRes (cs.getD j .un) lo.toNat hi.toNat))
def OutX (P : Program) (C : Cfg) (sl : Sl) (o : Oper) (x : SV) (sl' : Sl) : Prop :=
  match o.op with
  | .move (.tmp t) => takeT sl t = (x, sl')
  | .load t a => ∃ p, opView C.tb o.type sl a = some p ∧ loadMv C.tb t sl p = some (x, sl')
  | .slice t (.tmp s) lo hi mx => ∃ cs, cutMv C.tb sl o.type t s lo hi mx = some (cs, x, sl') ∧ ∀ p ∈ cs, p
  | .call c => match c.callee with
    | .value (.func f) => (∃ i q s p y x0 zs xo as cs ws, C.io f = some i ∧ IoR P C sl f i c.argTypes.toList c.args.toList q s p y x0 zs xo as cs ws ∧ x = (C.sg f).mk cs ∧ sl' = (sl.map (keepIo (isBox (gt sl s)) s p)).set s (ioPut y (gt sl s) p ws)) ∨
        (∃ i t sz es as cs, C.gv f = true ∧ GvR P C sl f i c.argTypes.toList c.args.toList t sz es as cs ∧ x = (C.sg f).mk cs ∧ sl' = putT sl t .dead) ∨
        (∃ y ys u d as cs, C.io f = none ∧ c.args.toList = y :: ys ∧ opView C.tb (c.argTypes.toList.headD 0) sl y = some (.one (.cell (.vl u d))) ∧ argsV C.tb sl c.argTypes.toList c.args.toList = some as ∧ cs.all CV.fitV = true ∧ (∀ u' d', CV.vl u' d' ∈ cs → u' = u ∧ d' = d) ∧
          CallD P f as (fun r _ => r = .box cs) ∧ x = .box cs ∧ sl' = sl) ∨
        (∃ i j, C.io f = none ∧ CtR P C sl f i j c.argTypes.toList c.args.toList x ∧ sl' = sl)
    | .value (.tmp t) => ∃ g caps args cs, gt sl t = .cloR g caps ∧ argsV C.tb sl c.argTypes.toList c.args.toList = some args ∧ C.dy.ok = true ∧ cs.length = C.dy.cells.length ∧ cs.all CV.fitR = true ∧
        CallD P g (args ++ caps.map SV.rptr) (fun r _ => r = C.dy.mk (cs.map CV.asOwn)) ∧ x = C.dy.mk cs ∧ sl' = sl
    | .builtin .append => ∃ t y z cs, c.argTypes.toList = [t, t] ∧ c.args.toList = [y, z] ∧ appV C.tb (grabO sl y) t y z = some (cs, x, sl') ∧ ∀ p ∈ cs, p
    | .builtin .clear => ∃ t y cs, c.argTypes.toList = [t] ∧ c.args.toList = [y] ∧ clrV C.tb sl t y = some (cs, x, sl') ∧ ∀ p ∈ cs, p
    | .builtin .copy => ∃ t t' y z cs, c.argTypes.toList = [t, t'] ∧ c.args.toList = [y, z] ∧ cpyV C.tb sl t y z = some (cs, x, sl') ∧ ∀ p ∈ cs, p
    | _ => False
  | _ => False
/-- What an operation whose guard is met brings: x into its slot, sl' the slots then. -/
def OutR (P : Program) (C : Cfg) (sl : Sl) (o : Oper) (x : SV) (sl' : Sl) : Prop := if isX C o = true then OutX P C sl o x sl' else OutR0 P C sl o x sl'

section
variable {P : Program} {C : Cfg} {sl : Sl} {o : Oper} {K : Sl → Prop}

theorem callK_out {sp : Bool} {pin : List Nat} {f : FuncId} {args : List SV} {rs : RS} {dst : Option Nat} (h : callK P sp pin f args rs dst sl K) :
    ∃ cs, rs.ok = true ∧ cs.length = rs.cells.length ∧ cs.all CV.fitR = true ∧ CallD P f args (fun r _ => r = rs.mk (cs.map CV.asOwn)) ∧ putK pin sl dst (rs.mk cs) K := by
  unfold callK at h
  split at h
  · exact h.elim
  · rename_i hok
    simp only [Bool.not_eq_false, Bool.and_eq_true] at hok
    obtain ⟨cs, ⟨h1, h2⟩, h3, h4⟩ := exCs_ex _ h
    exact ⟨cs, hok.1, h3, h4 hok.2, h1, splitS_self h2⟩

theorem opX_out (h : opX P C sl o K) : ∃ x sl', OutX P C sl o x sl' ∧ putK C.pin sl' o.dst x K := by
  unfold opX at h
  unfold OutX
  generalize ho : o.op = op at h
  cases op with
  | move x =>
    cases x with
    | tmp t =>
      dsimp only at h ⊢
      rw [forceL_eq] at h
      exact ⟨_, _, rfl, h⟩
    | _ => exact h.elim
  | load t a =>
    dsimp only at h ⊢
    split at h
    · rename_i x sl' hx
      rw [forceL_eq] at h
      simp only [Option.bind_eq_some_iff] at hx
      obtain ⟨p, h1, h2⟩ := hx
      exact ⟨x, sl', ⟨p, h1, h2⟩, h⟩
    · exact h.elim
  | slice t y lo hi mx =>
    cases y with
    | tmp s =>
      dsimp only at h ⊢
      split at h
      · rename_i cs x sl' hx
        rw [conjK_iff, forceL_eq] at h
        exact ⟨x, sl', ⟨cs, hx, h.1⟩, h.2⟩
      · exact h.elim
    | _ => exact h.elim
  | call c =>
    dsimp only at h ⊢
    cases hcal : c.callee with
    | value f =>
      rw [hcal] at h
      cases f with
      | func f =>
        dsimp only at h ⊢
        split at h
        · rename_i i hi
          split at h
          · rename_i hgv
            unfold callGv at h
            split at h
            · rename_i t hxo
              split at h
              · rename_i sz es hgt
                split at h
                · rename_i as has
                  split at h
                  · exact h.elim
                  · rename_i hok
                    simp only [Bool.not_eq_false, Bool.and_eq_true] at hok
                    obtain ⟨cs, ⟨hcall, h⟩, h3, h4⟩ := exCs_ex _ h
                    have h := splitS_self h
                    rw [forceL_eq] at h
                    exact ⟨_, _, .inr (.inl ⟨i, t, sz, es, as, cs, hgv, ⟨hxo, hgt, has, hok.1, h3, h4 hok.2, hcall⟩, rfl, rfl⟩), h⟩
                · exact h.elim
              · exact h.elim
            · exact h.elim
          unfold callIo at h
          split at h
          · rename_i q s p y zs hb
            split at h
            · rename_i as has
              split at h
              · exact h.elim
              · rename_i hok
                simp only [Bool.not_eq_false, Bool.and_eq_true] at hok
                rw [conjK_iff] at h
                obtain ⟨hq, h⟩ := h
                simp only [Option.bind_eq_some_iff] at hb
                obtain ⟨xo, e1, x0, e2, e3⟩ := hb
                obtain ⟨cs, h, h3, h4⟩ := exCs_ex _ h
                obtain ⟨ws, ⟨hwf, hcall, h⟩, h5, -, h7⟩ := exCs_all _ h
                have h := splitS_self h
                rw [forceL_eq] at h
                exact ⟨_, _, .inl ⟨i, q, s, p, y, x0, zs, xo, as, cs, ws, hi, ⟨e1, e2, e3, has, hok.1.1, h3, h4 hok.1.2, ⟨h5, h7⟩, hwf, hq, hcall⟩, rfl, rfl⟩, h⟩
            · exact h.elim
          · exact h.elim
        · rename_i hio
          split at h
          · rename_i i j hct
            unfold callCt at h
            split at h
            · rename_i cs as hb has
              split at h
              · rename_i sz es hd
                obtain ⟨lo, hi, hb2, hcall, h⟩ := h
                simp only [Option.bind_eq_some_iff] at hb
                obtain ⟨y, e1, e2⟩ := hb
                exact ⟨_, _, .inr (.inr (.inr ⟨i, j, hio, ⟨y, cs, sz, es, as, lo, hi, e1, e2, has, hd, hb2, hcall, rfl⟩, rfl⟩)), h⟩
              · exact h.elim
            · exact h.elim
          unfold callBx at h
          split at h
          · rename_i zs y ys hsg hys
            split at h
            · rename_i u d as hy has
              obtain ⟨cs, ⟨hfv, hcall, h⟩, h3, -, h7⟩ := exCs_all _ h
              have h := splitS_self h
              refine ⟨_, _, .inr (.inr (.inl ⟨y, ys, u, d, as, cs, hio, hys, hy, has, hfv, fun u' d' hm => ?_, hcall, rfl, rfl⟩)), h⟩
              obtain ⟨j, hj, e⟩ := List.mem_iff_getElem.1 hm
              have hz := h7 j u' d' (by rw [List.getElem?_eq_getElem hj, e])
              rw [List.getElem?_map] at hz
              cases hzj : zs[j]? with
              | none => rw [hzj] at hz; cases hz
              | some z =>
                rw [hzj] at hz
                simp only [Option.map_some, Option.some.injEq] at hz
                cases z <;> simp_all [vlTo]
            · exact h.elim
          · exact h.elim
      | tmp t =>
        dsimp only at h ⊢
        split at h
        · rename_i g caps args hg ha
          obtain ⟨cs, h1, h2, h3, h4, h5⟩ := callK_out h
          exact ⟨_, _, ⟨g, caps, args, cs, hg, ha, h1, h2, h3, h4, rfl, rfl⟩, h5⟩
        · exact h.elim
      | _ => exact h.elim
    | invoke r m => rw [hcal] at h; exact h.elim
    | builtin b =>
      rw [hcal] at h
      cases b with
      | append =>
        dsimp only at h ⊢
        split at h
        · rename_i t t' y z ht hy
          split at h
          · rename_i e
            have e : t = t' := by simpa using e
            subst e
            split at h
            · rename_i cs v sl' hv
              rw [conjK_iff, forceL_eq] at h
              exact ⟨v, sl', ⟨t, y, z, cs, ht, hy, hv, h.1⟩, h.2⟩
            · exact h.elim
          · exact h.elim
        · exact h.elim
      | clear =>
        dsimp only at h ⊢
        split at h
        · rename_i t y ht hy
          split at h
          · rename_i cs v sl' hv
            rw [conjK_iff, forceL_eq] at h
            exact ⟨v, sl', ⟨t, y, cs, ht, hy, hv, h.1⟩, h.2⟩
          · exact h.elim
        · exact h.elim
      | copy =>
        dsimp only at h ⊢
        split at h
        · rename_i t t' y z ht hy
          split at h
          · rename_i cs v sl' hv
            rw [conjK_iff, forceL_eq] at h
            exact ⟨v, sl', ⟨t, t', y, z, cs, ht, hy, hv, h.1⟩, h.2⟩
          · exact h.elim
        · exact h.elim
      | _ => exact h.elim
  | _ => exact h.elim

theorem opK_out (h : opK P C sl o K) : ∃ x sl', OutR P C sl o x sl' ∧ putK C.pin sl' o.dst x K := by
  unfold opK at h
  unfold OutR
  split at h
  · rename_i hx
    simp only [hx, if_true]
    exact opX_out h
  · rename_i hx
    simp only [hx]
    exact opK0_out h
end

section
variable {P : Program} {C : Cfg} {tb : Tb} {φ : Option Nat → List Nat} {w0 w w' : World} {F0 : List Nat} {sl : Sl} {fx : SV} {ts : Array Value} {fv : Value} {ds : List Deferred} {Q : Exit → Act → World → Prop}

theorem argsIo_spec {s i : Nat} {y : SV} : ∀ (xs : List Operand) (k : Nat) (tys : List TypeId) (as : List SV), argsIo tb sl s i y k tys xs = some as →
    as.length = xs.length ∧ ∀ (j : Nat) (v : SV), as[j]? = some v → (k + j = i ∧ v = y) ∨ (k + j ≠ i ∧ ∃ o x ty, xs[j]? = some o ∧ opView tb ty sl o = some x ∧ s ∉ x.roots ∧ argV sl x = some v) ∨
      (k + j ≠ i ∧ ∃ o x ty, xs[j]? = some o ∧ opView tb ty sl o = some x ∧ refArg s i y x = some v)
  | [], k, tys, as, h => by
    simp only [argsIo, Option.some.injEq] at h
    subst h
    exact ⟨rfl, fun j v hj => by simp at hj⟩
  | x :: xs, k, tys, as, h => by
    simp only [argsIo] at h
    split at h
    · rename_i v vs h1 h2
      cases h
      obtain ⟨g1, g2⟩ := argsIo_spec xs (k + 1) tys.tail vs h2
      refine ⟨by simp [g1], fun j u hj => ?_⟩
      cases j with
      | zero =>
        simp only [List.getElem?_cons_zero, Option.some.injEq] at hj
        subst hj
        split at h1
        · rename_i e
          cases h1
          exact .inl ⟨e, rfl⟩
        · rename_i e
          split at h1
          · rename_i z hz
            split at h1
            · exact .inr (.inr ⟨e, x, z, _, rfl, hz, h1⟩)
            · rename_i hr
              exact .inr (.inl ⟨e, x, z, _, rfl, hz, by simpa using hr, h1⟩)
          · cases h1
      | succ j =>
        simp only [List.getElem?_cons_succ] at hj
        rcases g2 j u hj with ⟨e1, e2⟩ | ⟨e1, o, z, ty, e2, e3⟩ | ⟨e1, o, z, ty, e2, e3⟩
        · exact .inl ⟨by omega, e2⟩
        · exact .inr (.inl ⟨by omega, o, z, ty, by simpa using e2, e3⟩)
        · exact .inr (.inr ⟨by omega, o, z, ty, by simpa using e2, e3⟩)
    · cases h

theorem ioV_agg {x : SV} {c : List Prop} {s : Nat} {p : List Nat} {y : SV} {zs : List CV} (h : ioV sl x = some (c, s, p, y, zs)) : ∀ cs, gt sl s ≠ .one (.agg cs) := by
  intro cs e
  unfold ioV at h
  split at h
  · split at h
    · rename_i hd; cases h; rw [hd] at e; cases e
    · rename_i hd
      split at h
      · cases h; rw [hd] at e; cases e
      · cases h
    · cases h
  · split at h
    · rename_i hd
      split at h
      · cases h; rw [hd] at e; cases e
      · cases h
    · cases h
  · split at h
    · split at h
      · rename_i hd
        simp only [Option.map_eq_some_iff, Prod.mk.injEq] at h
        obtain ⟨ys, -, -, rfl, -⟩ := h
        rw [hd] at e; cases e
      · cases h
    · cases h
  · cases h
theorem ioV_rel (h : RelW φ w0 F0 sl fx ts fv w) {ty : TypeId} {o : Operand} {x : SV} {c : List Prop} {s : Nat} {p : List Nat} {y : SV} {zs : List CV} (hx : opView tb ty sl o = some x) (hio : ioV sl x = some (c, s, p, y, zs)) :
    SlotRel w φ (valAt ts) (Act.eval ⟨ts, ds⟩ o) [] x := by
  unfold ioV at hio
  split at hio
  · exact opView_rel h hx rfl
  · exact opView_rel h hx rfl
  · rename_i xs
    split at hio
    · split at hio
      · simp only [Option.map_eq_some_iff, Prod.mk.injEq] at hio
        obtain ⟨ys, hio, -⟩ := hio
        cases o with
        | tmp t =>
          simp only [opView, Option.some.injEq] at hx
          have hg := gt_rel h t
          have : ∃ cs0, gt sl t = .one (.agg cs0) ∧ xs = cs0.map (resC sl) := by
            unfold view at hx
            split at hx
            · cases hx
            · cases hx
            · rename_i cs0 e
              cases hx
              exact ⟨cs0, e, rfl⟩
            · cases hx
            · rename_i n1 n2 n3 n4
              exact absurd hx (n3 xs)
          obtain ⟨cs0, this, rfl⟩ := this
          rw [this] at hg
          obtain ⟨vs, h1, h2⟩ := hg
          have h3 := resCs_rel h h2
          rw [ioAgg_bare _ _ _ _ hio h3] at h3
          exact ⟨vs, h1, h3⟩
        | const v =>
          simp only [opView] at hx
          unfold constSV at hx
          split at hx <;> first | (cases hx; done) | (split at hx <;> cases hx) | cases hx
        | func f => simp [opView] at hx
        | global g => simp [opView] at hx
      · cases hio
    · cases hio
  · cases hio

theorem hdr_mem {w : World} {F G : List Nat} (h : ∀ b, b ∈ F ↔ b ∈ G) : ∀ (p : List Nat) (v : Value), hdr w F v p = hdr w G v p
  | [], _ => rfl
  | j :: p, v => by
    simp only [hdr]
    cases locOf v with
    | none => rfl
    | some bo =>
      obtain ⟨b, o⟩ := bo
      dsimp only
      by_cases hb : b ∈ F
      · rw [if_pos hb, if_pos ((h b).1 hb)]
        congr 1
        funext u
        exact hdr_mem h p u
      · rw [if_neg hb, if_neg fun hg => hb ((h b).2 hg)]

theorem io_wp {o : Oper} {c : Call} {f : FuncId} {i : Nat} {q : List Prop} {s : Nat} {p : List Nat} {y x0 : SV} {zs : List CV} {xo : Operand} {as : List SV} {cs ws : List CV} (he : o.op = .call c) (hcal : c.callee = .value (.func f))
    (hr : IoR P C sl f i c.argTypes.toList c.args.toList q s p y x0 zs xo as cs ws) (h : RelW φ w0 F0 sl fx ts fv w) {K : Act → World → Prop}
    (hK : ∀ v w' φ', RelW φ' w0 F0 ((sl.map (keepIo (isBox (gt sl s)) s p)).set s (ioPut y (gt sl s) p ws)) ((C.sg f).mk cs) ts v w' → K (Act.put ⟨ts, ds⟩ o.dst v) w') : o.wp P ⟨ts, ds⟩ w K Q := by
  obtain ⟨hxo, hx0, hio, has, hok, hcl, hcf, hwl, hwf, hc, ⟨fn, c1, c2, c3⟩, h6⟩ := hr
  obtain ⟨χ, rest, hp, hslt, hyr, hbx2, hbxr, hy, back⟩ := io_focus h (ioV_rel (ds := ds) h hx0 hio) hio hc
  have hnds := (hp.nodup_iff).1 (h.nd (some s))
  obtain ⟨nd1, nd2, nd3⟩ := List.nodup_append.1 hnds
  have inχ : ∀ b ∈ χ, b ∈ φ (some s) := fun b hb => hp.mem_iff.2 (by simp [hb])
  have inr : ∀ b ∈ rest, b ∈ φ (some s) := fun b hb => hp.mem_iff.2 (by simp [hb])
  obtain ⟨l1, l2⟩ := argsIo_spec c.args.toList 0 c.argTypes.toList as has
  have hil : i < as.length := by rw [l1]; exact (List.getElem?_eq_some_iff.1 hxo).1
  let φc : Option Nat → List Nat := fun t => if t = some i then χ else []
  have hφc : ∀ t, ∀ b ∈ φc t, b ∈ χ := fun t b hb => by
    simp only [φc] at hb
    split at hb
    · exact hb
    · cases hb
  have hF : ∀ b, b ∈ ((List.range as.length).flatMap fun t => φc (some t)) ↔ b ∈ χ := fun b => by
    constructor
    · intro hb
      obtain ⟨t, _, hb⟩ := List.mem_flatMap.1 hb
      exact hφc _ b hb
    · intro hb
      exact List.mem_flatMap.2 ⟨i, by simpa using hil, by simp [φc, hb]⟩
  have evA : ∀ j o', c.args.toList[j]? = some o' → valAt (c.args.map (Act.eval ⟨ts, ds⟩)) j = Act.eval ⟨ts, ds⟩ o' := fun j o' hj => by
    have : c.args[j]? = some o' := by simpa using hj
    simp [valAt, this]
  have harg : RelW φc w ((List.range as.length).flatMap fun t => φc (some t)) as .dead (c.args.map (Act.eval ⟨ts, ds⟩)) undef w := by
    refine ⟨by simpa using l1.symm, fun t x hx => ?_, fun t => ?_, fun t t' hne b hb hb' => ?_, fun t b hb => ⟨(h.lt _ b (inχ b (hφc t b hb))).1, .inr ((hF b).2 (hφc t b hb))⟩, Ext.refl _ _⟩
    · cases t with
      | none => cases hx; exact trivial
      | some j =>
        rcases l2 j x hx with ⟨e1, rfl⟩ | ⟨e1, o', z, ty, e2, e3, e4, e5⟩ | ⟨e1, o', z, ty, e2, e3, e4⟩
        · have e1 : j = i := by omega
          subst e1
          simp only [vget, evA j xo hxo]
          have : φc (some j) = χ := by simp [φc]
          rw [this]
          exact hy _ _ fun b _ hb t ht => hb (some s) (inχ b (hφc t b ht))
        · have e1 : j ≠ i := by omega
          simp only [vget, evA j o' e2]
          have : φc (some j) = [] := by simp [φc, e1]
          rw [this]
          refine argV_apart (X := χ) h hφc (fun b hf hb => hf (some s) (inχ b hb)) e3 e5 (fun r hr b hb hb' => ?_) (fun t cs' e6 e7 b hb hb' => ?_)
          · have hrs : r ≠ s := fun e => e4 (e ▸ hr)
            exact h.dj (some r) (some s) (by simpa using hrs) b hb (inχ b hb')
          · have hts : t ≠ s := fun e => ioV_agg hio cs' (e ▸ e7)
            exact h.dj (some t) (some s) (by simpa using hts) b hb (inχ b hb')
        · have e1 : j ≠ i := by omega
          simp only [vget, evA j o' e2]
          have : φc (some j) = [] := by simp [φc, e1]
          rw [this]
          unfold refArg at e4
          split at e4
          · rename_i bs s' j0 p0 d0
            split at e4
            · rename_i e
              subst e
              cases e4
              obtain ⟨u1, u2⟩ := hbx2 rfl
              obtain ⟨-, r1, bs0, r2, r3⟩ := opView_rel (ds := ds) h e3 rfl
              have ei : φc (some i) = χ := by simp [φc]
              have eχ : ∀ b, b ∈ χ ↔ b ∈ φ (some s') := fun b => by rw [hp.mem_iff, u2]; simp
              refine ⟨rfl, ?_, bs0, r2, fun b hb => by rw [ei]; exact (eχ b).2 (r3 b hb)⟩
              have e5 : valAt (c.args.map (Act.eval ⟨ts, ds⟩)) i = valAt ts s' := (evA i xo hxo).trans u1
              show hdr w (φc (some i)) (valAt (c.args.map (Act.eval ⟨ts, ds⟩)) i) (j0 :: p0) = some (Act.eval ⟨ts, ds⟩ o')
              rw [ei, e5, hdr_mem eχ]
              exact r1
            · cases e4
          · cases e4
    · simp only [φc]
      split
      · exact nd1
      · exact .nil
    · simp only [φc] at hb hb'
      split at hb
      · split at hb'
        · rename_i e e'; exact hne (e.trans e'.symm)
        · cases hb'
      · cases hb
  have c2' : fn.name ≠ "runtime.NumGoroutine" := by simpa using c2
  have c3' : fn.body ≠ none := fun e => by rw [e] at c3; cases c3
  have hrun : (execOp (Act.eval ⟨ts, ds⟩) o).run P w = .ok (.enter f (c.args.map (Act.eval ⟨ts, ds⟩))) w := by
    simp [execOp, he, resolve, hcal, Act.eval, Deferred.ofValue, invoke, callFunc, c1, c2', c3']
  unfold Oper.wp; rw [hrun]
  refine (h6 w _ φc harg (by simp [φc])).mono fun e w' ⟨v, r, args', φ', e1, ⟨e2, e2'⟩, e3, e4⟩ => ?_
  subst e1 e2
  have hext : Ext χ w w' := e4.ext.mono fun b hb _ => (hF b).1 hb
  have hexts : Ext (φ (some s)) w w' := hext.mono fun b hb _ => inχ b hb
  have hi' : args'[i]? = some (ioSV y ws) := by
    cases hq : args'[i]? with
    | none =>
      simp only [List.getD, hq, Option.getD_none] at e2'
      unfold ioSV at e2'
      split at e2' <;> cases e2'
    | some z => simp only [List.getD, hq, Option.getD_some] at e2'; rw [e2']
  have hrel' := e4.slot (some i) _ hi'
  simp only [vget, evA i xo hxo] at hrel'
  have hlt' : ∀ t, ∀ b ∈ φ' t, b < w'.heap.size ∧ (b ∈ χ ∨ w.heap.size ≤ b) := fun t b hb => ⟨(e4.lt t b hb).1, ((e4.lt t b hb).2.imp id (hF b).1).symm⟩
  obtain ⟨ψ', m1, m2⟩ := back w' (φ' (some i)) ws φ' _ hext.size (fun b hb => hext.block b (h.lt _ b (inr b hb)).1 fun hm => nd3 b hm b hb rfl) hwl.1 hwl.2 hwf hrel' (fun b hb hf => hext.block b hb fun hm => hf (some s) (inχ b hm))
  obtain ⟨χr, s1, k1⟩ := mk_rel (g := valAt ts) hok hcl hcf (e4.nd none) (e4.slot none _ rfl)
  have inψ : ∀ b, b ∈ ψ' ↔ b ∈ φ' (some i) ∨ b ∈ rest := fun b => by rw [m1.mem_iff]; simp
  have hrestχ : ∀ b ∈ rest, b ∉ φ' none ∧ b ∉ φ' (some i) := fun b hb => by
    have hb1 := (h.lt _ b (inr b hb)).1
    refine ⟨fun hm => ?_, fun hm => ?_⟩
    · rcases (hlt' none b hm).2 with g | g
      · exact nd3 b g b hb rfl
      · omega
    · rcases (hlt' (some i) b hm).2 with g | g
      · exact nd3 b g b hb rfl
      · omega
  refine hK v w' _ (h.write2 s hslt (keep := keepIo (isBox (gt sl s)) s p) (ψ' := ψ') (ψy := χr) hexts ?_ (s1.nodup (e4.nd none)) ?_ ?_ ?_ (m2 _ ?_) (k1 _ ?_) (fun y hy => by simp [keepIo, hy]) ?_)
  · refine (m1.nodup_iff).2 (List.nodup_append.2 ⟨e4.nd _, nd2, fun a ha b hb e => (hrestχ b hb).2 (e ▸ ha)⟩)
  · intro b hb hb'
    have hb' := s1.subset hb'
    rcases (inψ b).1 hb with g | g
    · exact e4.dj (some i) none (by simp) b g hb'
    · exact (hrestχ b g).1 hb'
  · intro b hb
    rcases (inψ b).1 hb with g | g
    · exact ⟨(hlt' _ b g).1, (hlt' _ b g).2.imp (inχ b) id⟩
    · exact ⟨Nat.lt_of_lt_of_le (h.lt _ b (inr b g)).1 hext.size, .inl (inr b g)⟩
  · intro b hb
    exact ⟨(hlt' _ b (s1.subset hb)).1, (hlt' _ b (s1.subset hb)).2.imp (inχ b) id⟩
  · intro b hb hf t ht
    unfold landed2 at ht
    split at ht
    · rcases (inψ b).1 ht with g | g
      · rcases (hlt' _ b g).2 with g | g
        · exact hf _ (inχ b g)
        · omega
      · exact hf _ (inr b g)
    · split at ht
      · rcases (hlt' _ b (s1.subset ht)).2 with g | g
        · exact hf _ (inχ b g)
        · omega
      · exact hf t ht
  · intro b hb hb' t ht
    have hbn := hlt' none b hb
    unfold landed2 at ht
    split at ht
    · rcases (inψ b).1 ht with g | g
      · exact e4.dj (some i) none (by simp) b g hb
      · exact (hrestχ b g).1 hb
    · split at ht
      · exact hb' ht
      · rename_i e1 e2
        rcases hbn.2 with g | g
        · exact h.dj (some s) t (fun e => e1 e.symm) b (inχ b g) ht
        · have := (h.lt t b ht).1; omega
  · intro t z hts hz hr
    have hrel := h.slot (some t) z hz
    simp only [vget] at hrel
    have root1 : landed2 φ s ψ' χr (some s) = ψ' := by simp [landed2]
    have hdrs : ∀ i v, isBox (gt sl s) = true → p ≠ [] → hdr w (φ (some s)) (valAt ts s) [i] = some v → hdr w' ψ' (valAt ts s) [i] = some v := by
      intro i v hbx hpn hv
      obtain ⟨b0, hb0, hb1⟩ := hbxr hbx hpn
      rw [hb0] at hv ⊢
      simp only [hdr, locOf] at hv ⊢
      rw [if_pos (inr b0 hb1)] at hv
      rw [if_pos ((inψ b0).2 (.inr hb1)), World.cell?_of_block (w := w) (a := ⟨b0, 0 + i, none⟩) (hext.block b0 (h.lt _ b0 (inr b0 hb1)).1 fun hm => nd3 b0 hm b0 hb1 rfl)]
      exact hv
    have oneC : ∀ (v : Value) (ψ : List Nat) (c : CV), (∀ b ∈ ψ, b ∉ φ (some s) ∧ b < w.heap.size) → CVRel w φ (valAt ts) v ψ c → CVRel w' (landed2 φ s ψ' χr) (valAt ts) v ψ (keepIoC (isBox (gt sl s)) s p c) := by
      intro v ψ c hψ hc
      by_cases hs : s ∈ c.roots
      · have hroot : c.roots = [s] := root_of hs
        unfold keepIoC
        rw [if_pos hs]
        split
        · rename_i s'
          have : s' = s := by simpa [CV.roots] using hroot
          subst this
          exact ⟨hc.1, hc.2⟩
        · rename_i s' i
          have : s' = s := by simpa [CV.roots] using hroot
          subst this
          split
          · rename_i hbx
            exact ⟨hc.1, by rw [root1]; exact hdrs i _ hbx (by simp) hc.2⟩
          · exact trivial
        · exact trivial
      · have : keepIoC (isBox (gt sl s)) s p c = c := by simp [keepIoC, hs]
        rw [this]
        refine hc.kept ⟨hexts.size, fun b' hb' => hexts.block b' (hψ b' hb').2 (hψ b' hb').1, fun r hr => ?_, fun b' hb' hf => ⟨hexts.block b' hb' (hf (some s)), fun t ht => ?_⟩⟩
        · have hne : r ≠ s := fun e => hs (e ▸ hr)
          exact ⟨rfl, by simp [landed2, hne], fun b' hb' => hexts.block b' (h.lt _ b' hb').1 (h.dj (some r) (some s) (by simpa using hne) b' hb')⟩
        · unfold landed2 at ht
          split at ht
          · rcases (inψ b').1 ht with g | g
            · rcases (hlt' _ b' g).2 with g | g
              · exact hf _ (inχ b' g)
              · omega
            · exact hf _ (inr b' g)
          · split at ht
            · rcases (hlt' _ b' (s1.subset ht)).2 with g | g
              · exact hf _ (inχ b' g)
              · omega
            · exact hf t ht
    have hφt : ∀ b ∈ φ (some t), b ∉ φ (some s) ∧ b < w.heap.size := fun b' hb' => ⟨h.dj (some t) (some s) (by simpa using hts) b' hb', (h.lt _ b' hb').1⟩
    unfold keepIo
    rw [if_pos hr]
    split
    · rename_i s' j'
      have hs' : s = s' := by simpa [SV.roots] using hr
      subst hs'
      obtain ⟨g1, hh, b', o', g2, g3, g4⟩ := hrel
      exact ⟨g1, hh, b', o', by simpa [hdr] using g2, g3, g4⟩
    · exact oneC _ _ _ hφt hrel
    · rename_i cs0
      obtain ⟨vs0, g1, g2⟩ := hrel
      refine ⟨vs0, g1, ?_⟩
      have go : ∀ (vs : List Value) (cs : List CV) (ψ : List Nat), CVs w φ (valAt ts) vs cs ψ → (∀ b ∈ ψ, b ∉ φ (some s) ∧ b < w.heap.size) → CVs w' (landed2 φ s ψ' χr) (valAt ts) vs (cs.map (keepIoC (isBox (gt sl s)) s p)) ψ := by
        intro vs cs ψ hcv
        induction hcv with
        | nil => intro _; exact .nil
        | cons g1 _ ih =>
          intro hψ
          exact .cons (oneC _ _ _ (fun b' hb' => hψ b' (by simp [hb'])) g1) (ih fun b' hb' => hψ b' (by simp [hb']))
      exact go _ _ _ g2 hφt
    · exact trivial

theorem gv_wp {o : Oper} {c : Call} {f : FuncId} {i t0 sz : Nat} {es : List DV} {as : List SV} {cs : List CV} (he : o.op = .call c) (hcal : c.callee = .value (.func f))
    (hr : GvR P C sl f i c.argTypes.toList c.args.toList t0 sz es as cs) (h : RelW φ w0 F0 sl fx ts fv w) {K : Act → World → Prop}
    (hK : ∀ v w' φ', RelW φ' w0 F0 (putT sl t0 .dead) ((C.sg f).mk cs) ts v w' → K (Act.put ⟨ts, ds⟩ o.dst v) w') : o.wp P ⟨ts, ds⟩ w K Q := by
  obtain ⟨hxo, hgt, has, hok, hcl, hcf, ⟨fn, c1, c2, c3⟩, h6⟩ := hr
  have hown := gt_rel h t0
  rw [hgt] at hown
  have hslt : t0 < sl.length := by
    rcases Nat.lt_or_ge t0 sl.length with h' | h'
    · exact h'
    · have : gt sl t0 = .dead := by unfold gt; rw [List.getD_eq_getElem?_getD, List.getElem?_eq_none h']; rfl
      rw [this] at hgt; cases hgt
  obtain ⟨l1, l2⟩ := argsIo_spec c.args.toList 0 c.argTypes.toList as has
  have hil : i < as.length := by rw [l1]; exact (List.getElem?_eq_some_iff.1 hxo).1
  let φc : Option Nat → List Nat := fun t => if t = some i then φ (some t0) else []
  have hφc : ∀ t, ∀ b ∈ φc t, b ∈ φ (some t0) := fun t b hb => by
    simp only [φc] at hb
    split at hb
    · exact hb
    · cases hb
  have hF : ∀ b, b ∈ ((List.range as.length).flatMap fun t => φc (some t)) ↔ b ∈ φ (some t0) := fun b => by
    constructor
    · intro hb
      obtain ⟨t, _, hb⟩ := List.mem_flatMap.1 hb
      exact hφc _ b hb
    · intro hb
      exact List.mem_flatMap.2 ⟨i, by simpa using hil, by simp [φc, hb]⟩
  have evA : ∀ j o', c.args.toList[j]? = some o' → valAt (c.args.map (Act.eval ⟨ts, ds⟩)) j = Act.eval ⟨ts, ds⟩ o' := fun j o' hj => by
    have : c.args[j]? = some o' := by simpa using hj
    simp [valAt, this]
  have harg : RelW φc w ((List.range as.length).flatMap fun t => φc (some t)) as .dead (c.args.map (Act.eval ⟨ts, ds⟩)) undef w := by
    refine ⟨by simpa using l1.symm, fun t x hx => ?_, fun t => ?_, fun t t' hne b hb hb' => ?_, fun t b hb => ⟨(h.lt _ b (hφc t b hb)).1, .inr ((hF b).2 (hφc t b hb))⟩, Ext.refl _ _⟩
    · cases t with
      | none => cases hx; exact trivial
      | some j =>
        rcases l2 j x hx with ⟨e1, rfl⟩ | ⟨e1, o', z, ty, e2, e3, e4, e5⟩ | ⟨e1, o', z, ty, e2, e3, e4⟩
        · have e1 : j = i := by omega
          subst e1
          simp only [vget, evA j _ hxo]
          have : φc (some j) = φ (some t0) := by simp [φc]
          rw [this]
          exact hown
        · have e1 : j ≠ i := by omega
          simp only [vget, evA j o' e2]
          have : φc (some j) = [] := by simp [φc, e1]
          rw [this]
          refine argV_apart (X := φ (some t0)) h hφc (fun b hf hb => hf (some t0) hb) e3 e5 (fun r hr b hb hb' => ?_) (fun t cs' e6 e7 b hb hb' => ?_)
          · have hrs : r ≠ t0 := fun e => e4 (e ▸ hr)
            exact h.dj (some r) (some t0) (by simpa using hrs) b hb hb'
          · have hts : t ≠ t0 := fun e => by rw [e, hgt] at e7; cases e7
            exact h.dj (some t) (some t0) (by simpa using hts) b hb hb'
        · simp [refArg] at e4
    · simp only [φc]
      split
      · exact h.nd _
      · exact .nil
    · simp only [φc] at hb hb'
      split at hb
      · split at hb'
        · rename_i e e'; exact hne (e.trans e'.symm)
        · cases hb'
      · cases hb
  have c2' : fn.name ≠ "runtime.NumGoroutine" := by simpa using c2
  have c3' : fn.body ≠ none := fun e => by rw [e] at c3; cases c3
  have hrun : (execOp (Act.eval ⟨ts, ds⟩) o).run P w = .ok (.enter f (c.args.map (Act.eval ⟨ts, ds⟩))) w := by
    simp [execOp, he, resolve, hcal, Act.eval, Deferred.ofValue, invoke, callFunc, c1, c2', c3']
  unfold Oper.wp; rw [hrun]
  refine (h6 w _ φc harg (by simp [φc])).mono fun e w' ⟨v, r, args', φ', e1, e2, e3, e4⟩ => ?_
  subst e1 e2
  have hext : Ext (φ (some t0)) w w' := e4.ext.mono fun b hb _ => (hF b).1 hb
  have hlt' : ∀ t, ∀ b ∈ φ' t, b < w'.heap.size ∧ (b ∈ φ (some t0) ∨ w.heap.size ≤ b) := fun t b hb => ⟨(e4.lt t b hb).1, ((e4.lt t b hb).2.imp id (hF b).1).symm⟩
  obtain ⟨χr, s1, k1⟩ := mk_rel (g := valAt ts) hok hcl hcf (e4.nd none) (e4.slot none _ rfl)
  have e0 : putT sl t0 .dead = (sl.map (killSV t0)).set t0 .dead := by simp [putT, killSV, SV.roots]
  rw [e0] at hK
  refine hK v w' _ (h.write2 t0 hslt (keep := killSV t0) (x' := .dead) (ψ' := []) (ψy := χr) hext List.nodup_nil (s1.nodup (e4.nd none)) (fun b hb => by cases hb) (fun b hb => by cases hb) ?_ trivial (k1 _ ?_) (fun y hy => by simp [killSV, hy]) ?_)
  · intro b hb
    exact ⟨(hlt' _ b (s1.subset hb)).1, (hlt' _ b (s1.subset hb)).2⟩
  · intro b hb hb' t ht
    have hbn := hlt' none b hb
    unfold landed2 at ht
    split at ht
    · cases ht
    · split at ht
      · exact hb' ht
      · rename_i e1 e2
        rcases hbn.2 with g | g
        · exact h.dj (some t0) t (fun e => e1 e.symm) b g ht
        · have := (h.lt t b ht).1; omega
  · intro t z hts hz hr
    have : killSV t0 z = .dead := by simp [killSV, hr]
    rw [this]; exact trivial

theorem bx_wp {o : Oper} {c : Call} {f : FuncId} {ty : TypeId} {y : Operand} {u : Value} {d : DV} {as : List SV} {cs : List CV} (he : o.op = .call c) (hcal : c.callee = .value (.func f))
    (h1 : opView C.tb ty sl y = some (.one (.cell (.vl u d)))) (h2 : argsV C.tb sl c.argTypes.toList c.args.toList = some as) (h3 : cs.all CV.fitV = true) (h4 : ∀ u' d', CV.vl u' d' ∈ cs → u' = u ∧ d' = d)
    (h5 : CallD P f as fun r _ => r = .box cs) (h : RelW φ w0 F0 sl fx ts fv w) {K : Act → World → Prop}
    (hK : ∀ v w' φ', RelW φ' w0 F0 sl (.box cs) ts v w' → K (Act.put ⟨ts, ds⟩ o.dst v) w') : o.wp P ⟨ts, ds⟩ w K Q := by
  obtain ⟨⟨fn, c1, c2, c3⟩, h6⟩ := h5
  have c2' : fn.name ≠ "runtime.NumGoroutine" := by simpa using c2
  have c3' : fn.body ≠ none := fun e => by rw [e] at c3; cases c3
  have hrun : (execOp (Act.eval ⟨ts, ds⟩) o).run P w = .ok (.enter f (c.args.map (Act.eval ⟨ts, ds⟩))) w := by
    simp [execOp, he, resolve, hcal, Act.eval, Deferred.ofValue, invoke, callFunc, c1, c2', c3']
  unfold Oper.wp; rw [hrun]
  have hz : ((List.range as.length).flatMap fun t => (fun _ => [] : Option Nat → List Nat) (some t)) = [] := by simp
  have := h6 w (c.args.map (Act.eval ⟨ts, ds⟩)) (fun _ => []) (by rw [hz]; exact argsRel h h2) rfl
  rw [hz] at this
  refine this.mono fun e w' ⟨v, r, args', φ', e1, e2, e3, e4⟩ => ?_
  subst e1 e2
  have new : ∀ b ∈ φ' none, w.heap.size ≤ b ∧ b < w'.heap.size := fun b hb => by
    refine ⟨?_, (e4.lt none b hb).1⟩
    rcases (e4.lt none b hb).2 with g | g
    · exact g
    · cases g
  obtain ⟨-, -, bs, g1, g2⟩ := opView_rel (ds := ds) h h1 rfl
  obtain ⟨q1, b, cc, el, ψs, q2, q3, q4, q5⟩ := e4.slot none _ rfl
  refine hK v w' _ (h.fresh e4.ext (ψ := φ' none) (e4.nd none) new ⟨q1, b, cc, el, ψs, q2, q3, q4.backV h3 fun u' d' hm => ?_, q5⟩)
  obtain ⟨rfl, rfl⟩ := h4 u' d' hm
  have hu : Act.eval ⟨ts, ds⟩ y = u' := by
    obtain ⟨-, g, -⟩ := opView_rel (ds := ds) h h1 rfl
    exact g
  rw [hu] at g1
  refine ⟨bs, g1.frame e4.ext.size fun x hx => e4.ext.block x (g1.lt x hx) (by simp), fun x hx t ht => ?_⟩
  have hx1 := g1.lt x hx
  cases t with
  | none =>
    have : x ∈ φ' none := by simpa [setN] using ht
    have := (new x this).1
    omega
  | some t => exact g2 x hx (some t) (by simpa [setN] using ht)

theorem CVs.at {f : Nat → Value} : ∀ {vs : List Value} {cs : List CV} {ψ : List Nat} (j : Nat) {c : CV}, CVs w φ f vs cs ψ → cs[j]? = some c → ∃ v χ, vs[j]? = some v ∧ CVRel w φ f v χ c := by
  intro vs cs ψ j c h
  induction h generalizing j with
  | nil => intro e; simp at e
  | @cons v c0 ψ0 vs cs ψs h1 h2 ih =>
    intro e
    cases j with
    | zero =>
      simp only [List.getElem?_cons_zero, Option.some.injEq] at e
      subst e
      exact ⟨v, ψ0, rfl, h1⟩
    | succ j =>
      simp only [List.getElem?_cons_succ] at e
      obtain ⟨u, χ, e1, e2⟩ := ih j e
      exact ⟨u, χ, by simpa using e1, e2⟩
theorem CVs.setVl {f : Nat → Value} : ∀ {vs : List Value} {cs : List CV} {ψ : List Nat} (j : Nat) {d : DV} {u : Value}, CVs w φ f vs cs ψ → cs[j]? = some (.rd d) → vs[j]? = some u → CVs w φ f vs (cs.set j (.vl u d)) ψ := by
  intro vs cs ψ j d u h
  induction h generalizing j with
  | nil => intro e; simp at e
  | @cons v c0 ψ0 vs cs ψs h1 h2 ih =>
    intro e e'
    cases j with
    | zero =>
      simp only [List.getElem?_cons_zero, Option.some.injEq] at e e'
      subst e e'
      obtain ⟨g1, bs, g2, g3⟩ := h1
      subst g1
      exact .cons (ψ := []) ⟨rfl, rfl, bs, g2, g3⟩ h2
    | succ j =>
      simp only [List.getElem?_cons_succ] at e e'
      exact .cons h1 (ih j e e')
theorem opAgg_rel (h : RelW φ w0 F0 sl fx ts fv w) {ty : TypeId} {o : Operand} {cs : List CV} (hx : opView tb ty sl o = some (.one (.agg cs))) : ∃ vs ψ, Act.eval ⟨ts, ds⟩ o = .agg vs ∧ CVs w φ (valAt ts) vs.toList cs ψ := by
  cases o with
  | tmp t =>
    simp only [opView, Option.some.injEq] at hx
    have hg := gt_rel h t
    unfold view at hx
    split at hx
    · cases hx
    · cases hx
    · rename_i cs0 e
      cases hx
      rw [e] at hg
      obtain ⟨vs, h1, h2⟩ := hg
      exact ⟨vs, _, h1, resCs_rel h h2⟩
    · cases hx
    · rename_i e1 e2 e3 e4
      exact absurd hx (e3 cs)
  | const v =>
    simp only [opView] at hx
    unfold constSV at hx
    split at hx <;> try (cases hx; done)
    split at hx <;> cases hx
  | func f => simp [opView] at hx
  | global _ => simp [opView] at hx
theorem ct_wp {o : Oper} {c : Call} {f : FuncId} {i j : Nat} {x : SV} (he : o.op = .call c) (hcal : c.callee = .value (.func f))
    (hr : CtR P C sl f i j c.argTypes.toList c.args.toList x) (h : RelW φ w0 F0 sl fx ts fv w) {K : Act → World → Prop}
    (hK : ∀ v w' φ', RelW φ' w0 F0 sl x ts v w' → K (Act.put ⟨ts, ds⟩ o.dst v) w') : o.wp P ⟨ts, ds⟩ w K Q := by
  obtain ⟨y, cs, sz, es, as, lo, hi, h1, h2, h3, h4, ⟨b0, b1, b2⟩, h5, rfl⟩ := hr
  obtain ⟨vs, ψa, hvs, hcv⟩ := opAgg_rel (ds := ds) h h2
  have hj : j < cs.length := by
    refine Nat.lt_of_not_le fun hle => ?_
    rw [List.getD_eq_getElem?_getD, List.getElem?_eq_none hle] at h4
    cases h4
  have hcj : cs[j]? = some (cs.getD j .un) := by rw [List.getD_eq_getElem?_getD, List.getElem?_eq_getElem hj]; rfl
  obtain ⟨u, χ, hu, hrel⟩ := hcv.at j hcj
  obtain ⟨⟨fn, c1, c2, c3⟩, h6⟩ := h5 u
  have c2' : fn.name ≠ "runtime.NumGoroutine" := by simpa using c2
  have c3' : fn.body ≠ none := fun e => by rw [e] at c3; cases c3
  have hrun : (execOp (Act.eval ⟨ts, ds⟩) o).run P w = .ok (.enter f (c.args.map (Act.eval ⟨ts, ds⟩))) w := by
    simp [execOp, he, resolve, hcal, Act.eval, Deferred.ofValue, invoke, callFunc, c1, c2', c3']
  unfold Oper.wp; rw [hrun]
  have hargs := argsRel (C := C) (ds := ds) h h3
  have hgi := argsV_rel (g := valAt (c.args.map (Act.eval ⟨ts, ds⟩))) h (ds := ds) c.args.toList c.argTypes.toList as h3
  have hil : i < c.args.toList.length := (List.getElem?_eq_some_iff.1 h1).1
  have evi : vget (c.args.map (Act.eval ⟨ts, ds⟩)) undef (some i) = .agg vs := by
    have h1' : c.args[i]? = some y := by simpa using h1
    rw [← hvs]
    simp [vget, valAt, h1']
  have hz : ((List.range (as.set i (.one (.agg ((cs.map CV.lent).set j (.vl u (.sl sz es)))))).length).flatMap fun t => (fun _ => [] : Option Nat → List Nat) (some t)) = [] := by simp
  have hlent : (cs.map CV.lent)[j]? = some (.rd (.sl sz es)) := by
    rw [List.getElem?_map, hcj]
    have : (cs.getD j .un).lent = .rd (.sl sz es) := by
      generalize cs.getD j .un = cc at h4 ⊢
      unfold ctD at h4
      split at h4 <;> cases h4 <;> rfl
    rw [← this]; rfl
  have hall : RelW (fun _ => []) w [] (as.set i (.one (.agg ((cs.map CV.lent).set j (.vl u (.sl sz es)))))) .dead (c.args.map (Act.eval ⟨ts, ds⟩)) undef w := by
    refine ⟨by simpa using hargs.len, fun t z hz' => ?_, hargs.nd, hargs.dj, hargs.lt, hargs.ext⟩
    cases t with
    | none => exact hargs.slot none z hz'
    | some t =>
      simp only [sget] at hz'
      by_cases e : t = i
      · subst e
        have hl : t < as.length := by
          have := hargs.len
          simp at this
          have := hil
          simp at this
          omega
        rw [List.getElem?_set_self hl] at hz'
        cases hz'
        rw [evi]
        exact ⟨vs, rfl, (lents_rel hcv).setVl j hlent hu⟩
      · rw [List.getElem?_set_ne (Ne.symm e)] at hz'
        exact hargs.slot (some t) z hz'
  have := h6 w (c.args.map (Act.eval ⟨ts, ds⟩)) (fun _ => []) (by rw [hz]; exact hall) rfl
  rw [hz] at this
  refine this.mono fun e w' ⟨v, r, args', φ', e1, e2, e3, e4⟩ => ?_
  subst e1 e2
  obtain ⟨-, hv, -⟩ : CVRel w' φ' (valAt (c.args.map (Act.eval ⟨ts, ds⟩))) v (φ' none) (.vl (cutW sz u lo.toNat hi.toNat) (cutD (.sl sz es) lo.toNat hi.toNat)) := e4.slot none _ rfl
  have fin : SlotRel w φ (valAt ts) v [] (.one (.cell (ctRes (cs.getD j .un) lo.toNat hi.toNat))) := by
    generalize cs.getD j .un = cc at h4 hrel ⊢
    unfold ctD at h4
    split at h4
    · cases h4
      obtain ⟨-, bs, g1, g2⟩ := hrel
      obtain ⟨a, n, cap, hv', hn, hcap, a', bs', ha', k1, k2, k3⟩ := cut_rd g1 (lo := lo.toNat) (hi := hi.toNat) (by omega) (by omega)
      refine ⟨rfl, bs', ?_, fun b hb => g2 b (k2 b hb)⟩
      rw [hv, hv']
      simp only [cutW, ← ha']
      exact k1
    · rename_i s p d
      cases h4
      obtain ⟨-, g0, bs, g1, g2⟩ := hrel
      obtain ⟨a, n, cap, hv', hn, hcap, a', bs', ha', k1, k2, k3⟩ := cut_rd g1 (lo := lo.toNat) (hi := hi.toNat) (by omega) (by omega)
      subst hv'
      refine ⟨rfl, a, n, cap, a', hi.toNat - lo.toNat, cap - lo.toNat, bs', g0, ?_, ?_, ?_, fun b hb => g2 b (k2 b hb)⟩
      · rw [hv]
        simp only [cutW, ← ha']
      · intro hp
        obtain ⟨b, off, q1, q2⟩ := k3 hp
        exact ⟨b, off, q1, q2⟩
      · rw [hv]
        simp only [cutW, ← ha']
        exact k1
    · cases h4
  exact hK v w' _ ((h.see fin).extend e4.ext)

theorem out_wp (hT : TbOk P C.tb) {o : Oper} {x : SV} {sl' : Sl} (ho : OutR P C sl o x sl') (h : RelW φ w0 F0 sl fx ts fv w) {K : Act → World → Prop}
    (hK : ∀ v w' φ', RelW φ' w0 F0 sl' x ts v w' → K (Act.put ⟨ts, ds⟩ o.dst v) w') : o.wp P ⟨ts, ds⟩ w K Q := by
  unfold OutR at ho
  split at ho
  · unfold OutX at ho
    generalize he : o.op = op at ho
    cases op with
    | move y =>
      cases y with
      | tmp t =>
        dsimp only at ho
        obtain ⟨φ', hr⟩ := h.take t
        rw [ho] at hr
        have hrun : (execOp (Act.eval ⟨ts, ds⟩) o).run P w = .ok (.value (valAt ts t)) w := by simp only [execOp, he]; rfl
        unfold Oper.wp; rw [hrun]
        exact hK _ _ _ hr
      | _ => exact ho.elim
    | load t a =>
      obtain ⟨p, h1, h2⟩ := ho
      obtain ⟨v, φ', h3, h4⟩ := loadMv_sound (ds := ds) hT h h1 h2
      have hrun : (execOp (Act.eval ⟨ts, ds⟩) o).run P w = .ok (.value v) w := by
        simp only [execOp, he]
        rw [Sem.run_bind, h3]
        rfl
      unfold Oper.wp; rw [hrun]
      exact hK _ _ _ h4
    | slice t y lo hi mx =>
      cases y with
      | tmp s =>
        obtain ⟨cs, h1, h2⟩ := ho
        obtain ⟨v, φ', h3, h4⟩ := cutMv_sound (ds := ds) hT h h1 h2
        have hrun : (execOp (Act.eval ⟨ts, ds⟩) o).run P w = .ok (.value v) w := by
          simp only [execOp, he]
          rw [Sem.run_bind, h3]
          rfl
        unfold Oper.wp; rw [hrun]
        exact hK _ _ _ h4
      | _ => exact ho.elim
    | call c =>
      dsimp only at ho
      cases hcal : c.callee with
      | value f =>
        rw [hcal] at ho
        cases f with
        | func f =>
          rcases ho with ⟨i, q, s, p, y, x0, zs, xo, as, cs, ws, -, hr, rfl, rfl⟩ | ⟨i, t, sz, es, as, cs, -, hr, rfl, rfl⟩ | ⟨y, ys, u, d, as, cs, -, h0, h1, h2, h3, h4, h5, rfl, rfl⟩ | ⟨i, j, -, hr, rfl⟩
          · exact io_wp he hcal hr h hK
          · exact gv_wp he hcal hr h hK
          · exact bx_wp he hcal h1 h2 h3 h4 h5 h hK
          · exact ct_wp he hcal hr h hK
        | tmp t =>
          obtain ⟨g, caps, args, cs, h0, h1, h2, h3, h4, ⟨⟨fn, c1, c2, c3⟩, h6⟩, rfl, rfl⟩ := ho
          have hg := gt_rel h t
          rw [h0] at hg
          obtain ⟨-, ps, hv, hps⟩ := hg
          have c2' : fn.name ≠ "runtime.NumGoroutine" := by simpa using c2
          have c3' : fn.body ≠ none := fun e => by rw [e] at c3; cases c3
          have hev : Act.eval ⟨ts, ds⟩ (.tmp t) = .func (.func g) #[] ps := hv
          have hrun : (execOp (Act.eval ⟨ts, ds⟩) o).run P w = .ok (.enter g (c.args.map (Act.eval ⟨ts, ds⟩) ++ ps)) w := by
            simp [execOp, he, resolve, hcal, hev, Deferred.ofValue, invoke, callFunc, c1, c2', c3']
          unfold Oper.wp; rw [hrun]
          have hz : ((List.range (args ++ caps.map SV.rptr).length).flatMap fun t => (fun _ => [] : Option Nat → List Nat) (some t)) = [] := by simp
          have hargs := argsRel (ds := ds) h h1
          have hplen : ps.toList.length = caps.length := by
            clear h6 h0 hz
            generalize ps.toList = pl at hps
            induction hps with
            | nil => rfl
            | cons _ _ ih => simp [ih]
          have hall : RelW (fun _ => []) w [] (args ++ caps.map SV.rptr) .dead (c.args.map (Act.eval ⟨ts, ds⟩) ++ ps) undef w := by
            have hl := hargs.len
            refine ⟨by simp at hl hplen ⊢; omega, fun t x hx => ?_, fun _ => List.nodup_nil, fun _ _ _ b hb => (by cases hb), fun _ b hb => (by cases hb), Ext.refl _ _⟩
            cases t with
            | none => cases hx; exact trivial
            | some t =>
              simp only [sget] at hx
              by_cases ht : t < args.length
              · rw [List.getElem?_append_left ht] at hx
                have := hargs.slot (some t) x hx
                have e : valAt (c.args.map (Act.eval ⟨ts, ds⟩) ++ ps) t = valAt (c.args.map (Act.eval ⟨ts, ds⟩)) t := by
                  simp only [valAt, Array.getD_eq_getD_getElem?]
                  rw [Array.getElem?_append_left (by rw [hl]; exact ht)]
                simp only [vget] at this ⊢
                rw [e]
                have hcl : ∀ (f1 f2 : Nat → Value) (v : Value) (z : SV), z.roots = [] → SlotRel w (fun _ => []) f1 v [] z → SlotRel w (fun _ => []) f2 v [] z := fun f1 f2 v z hz hr =>
                  hr.kept ⟨Nat.le_refl _, fun _ _ => rfl, fun r hr' => (by rw [hz] at hr'; cases hr'), fun b hb hf => ⟨rfl, hf⟩⟩
                have h2' := (argsV_rel (g := valAt (c.args.map (Act.eval ⟨ts, ds⟩) ++ ps)) (ds := ds) h c.args.toList c.argTypes.toList args h1).2 t x hx
                obtain ⟨o', g1, g2⟩ := h2'
                have e2 : valAt (c.args.map (Act.eval ⟨ts, ds⟩)) t = Act.eval ⟨ts, ds⟩ o' := by
                  have : c.args[t]? = some o' := by simpa using g1
                  simp [valAt, this]
                rw [e2]
                exact g2
              · rw [List.getElem?_append_right (by omega)] at hx
                obtain ⟨es, hes, rfl⟩ : ∃ es, caps[t - args.length]? = some es ∧ SV.rptr es = x := by simpa [List.getElem?_map] using hx
                have hpt : ∀ {pl : List Value} {cl : List (List DV)} (k : Nat) (es : List DV), PtrRds w φ pl cl → cl[k]? = some es → ∃ v, pl[k]? = some v ∧ PtrRd w φ v es := by
                  intro pl cl k es hps
                  induction hps generalizing k with
                  | nil => intro hk; simp at hk
                  | cons h1 _ ih =>
                    intro hk
                    cases k with
                    | zero => simp at hk; subst hk; exact ⟨_, rfl, h1⟩
                    | succ k => simp at hk; obtain ⟨v, g1, g2⟩ := ih k hk; exact ⟨v, by simpa using g1, g2⟩
                obtain ⟨v, g1, g2⟩ := hpt _ _ hps hes
                have e : valAt (c.args.map (Act.eval ⟨ts, ds⟩) ++ ps) t = v := by
                  simp only [valAt, Array.getD_eq_getD_getElem?]
                  rw [Array.getElem?_append_right (by rw [hl]; omega), hl]
                  have : ps[t - args.length]? = some v := by simpa using g1
                  rw [this]; rfl
                simp only [vget]
                rw [e]
                exact ⟨rfl, ptr_lent g2⟩
          have := h6 w (c.args.map (Act.eval ⟨ts, ds⟩) ++ ps) (fun _ => []) (by rw [hz]; exact hall) rfl
          rw [hz] at this
          refine this.mono fun e w' ⟨v, r, args', φ', e1, e2, e3, e4⟩ => ?_
          subst e1 e2
          obtain ⟨χ', s1, k1⟩ := mk_rel (g := valAt ts) h2 h3 h4 (e4.nd none) (e4.slot none _ rfl)
          have new : ∀ b ∈ φ' none, w.heap.size ≤ b ∧ b < w'.heap.size := fun b hb => by
            refine ⟨?_, (e4.lt none b hb).1⟩
            rcases (e4.lt none b hb).2 with g | g
            · exact g
            · cases g
          refine hK v w' _ (h.fresh e4.ext (ψ := χ') (s1.nodup (e4.nd none)) (fun b hb => new b (s1.subset hb)) (k1 _ fun b hb hb' t ht => ?_))
          cases t with
          | none => exact hb' ht
          | some t => have := (h.lt (some t) b ht).1; have := (new b hb).1; omega
        | _ => exact ho.elim
      | invoke r m => rw [hcal] at ho; exact ho.elim
      | builtin b =>
        rw [hcal] at ho
        cases b with
        | append =>
          obtain ⟨t, y, z, cs, h0, h1, h2, h3⟩ := ho
          obtain ⟨φg, fxg, fvg, hg⟩ := grab_sound h y
          obtain ⟨u, w', φ', h4, h5⟩ := append_sound (P := P) (ds := ds) (ty := o.type) hT hg h2 h3
          have e0 : c.argTypes = #[t, t] := by apply Array.ext'; simpa using h0
          have e1 : c.args.map (Act.eval ⟨ts, ds⟩) = #[Act.eval ⟨ts, ds⟩ y, Act.eval ⟨ts, ds⟩ z] := by apply Array.ext'; simp [h1]
          have hrun : (execOp (Act.eval ⟨ts, ds⟩) o).run P w = .ok (.value u) w' := by
            simp only [execOp, he, resolve, hcal, invoke, builtin, Sem.run_bind, Sem.run_pure, Result.andThen_ok, e0, e1, h4]
          unfold Oper.wp; rw [hrun]
          exact hK _ _ _ h5
        | clear =>
          obtain ⟨t, y, cs, h0, h1, h2, h3⟩ := ho
          obtain ⟨u, w', φ', h4, h5⟩ := clear_sound (P := P) (ds := ds) (ty := o.type) hT h h2 h3
          have e0 : c.argTypes = #[t] := by apply Array.ext'; simpa using h0
          have e1 : c.args.map (Act.eval ⟨ts, ds⟩) = #[Act.eval ⟨ts, ds⟩ y] := by apply Array.ext'; simp [h1]
          have hrun : (execOp (Act.eval ⟨ts, ds⟩) o).run P w = .ok (.value u) w' := by
            simp only [execOp, he, resolve, hcal, invoke, builtin, Sem.run_bind, Sem.run_pure, Result.andThen_ok, e0, e1, h4]
          unfold Oper.wp; rw [hrun]
          exact hK _ _ _ h5
        | copy =>
          obtain ⟨t, t', y, z, cs, h0, h1, h2, h3⟩ := ho
          obtain ⟨u, w', φ', h4, h5⟩ := copy_sound (P := P) (ds := ds) (ty := o.type) (t' := t') hT h h2 h3
          have e0 : c.argTypes = #[t, t'] := by apply Array.ext'; simpa using h0
          have e1 : c.args.map (Act.eval ⟨ts, ds⟩) = #[Act.eval ⟨ts, ds⟩ y, Act.eval ⟨ts, ds⟩ z] := by apply Array.ext'; simp [h1]
          have hrun : (execOp (Act.eval ⟨ts, ds⟩) o).run P w = .ok (.value u) w' := by
            simp only [execOp, he, resolve, hcal, invoke, builtin, Sem.run_bind, Sem.run_pure, Result.andThen_ok, e0, e1, h4]
          unfold Oper.wp; rw [hrun]
          exact hK _ _ _ h5
        | _ => exact ho.elim
    | _ => exact ho.elim
  · exact out0_wp hT ho h hK
end
end Go.Proofs.Ytlffmhhdgedddaa.DL
