/- The data level, part 14c: copy; what is lent to be written. -/
import Derived.Test.YtckcehmggdnliaaL14b
import Derived.Laws.IdiomCopy
namespace Go.Proofs.Ytckcehmggdnliaa.DL
open Go Go.RowKit

section
variable {P : Program} {C : Cfg} {tb : Tb} {φ : Option Nat → List Nat} {w0 w w' : World} {F0 : List Nat} {sl : Sl} {fx : SV} {ts : Array Value} {fv : Value} {ds : List Deferred}

def ofV : DV → CV
  | .val v => .sc v
  | .sl _ _ => .un
theorem ofV_map {es : List DV} (h : AllVal es) : (es.map ofV).map CV.toDV = es := by
  rw [List.map_map]
  refine (List.map_congr_left fun d hd => ?_).trans (List.map_id _)
  have := h d hd
  cases d with
  | val v => rfl
  | sl _ _ => exact this.elim
theorem AllVal.take {es : List DV} (h : AllVal es) (k : Nat) : AllVal (es.take k) := fun d hd => h d (List.mem_of_mem_take hd)
theorem ofV_fit {es : List DV} (h : AllVal es) : (es.map ofV).all CV.fit = true := by
  rw [List.all_eq_true]
  intro c hc
  obtain ⟨d, hd, rfl⟩ := List.mem_map.1 hc
  have := h d hd
  cases d with
  | val v => rfl
  | sl _ _ => exact this.elim
theorem ofV_rel {f : Nat → Value} {o : Bool} {vs : List Value} {es : List DV} {bs : List Nat} (h : Rd o w vs es bs) (ha : AllVal es) : CVs w φ f vs (es.map ofV) [] := by
  induction h with
  | nil => exact .nil
  | @sc v vs ds bs hs _ ih =>
    have := CVs.cons (w := w) (φ := φ) (f := f) (v := v) (c := .sc v) (ψ := []) ⟨rfl, hs, rfl⟩ (ih fun d hd => ha d (List.mem_cons_of_mem _ hd))
    simpa [ofV] using this
  | e0 _ _ _ => exact (ha _ (List.mem_cons_self ..)).elim
  | sl _ _ _ _ _ _ _ _ => exact (ha _ (List.mem_cons_self ..)).elim
theorem modP_id {g : List DV → List DV} (hg : ∀ es, g es = es) : ∀ (p : List Nat) (d : DV), d.modP g p = d
  | [], .val _ => rfl
  | _ :: _, .val _ => rfl
  | [], .sl sz es => by simp only [DV.modP, hg]
  | j :: p, .sl sz es => by
    simp only [DV.modP, modP_id hg p]
    congr 1
    apply List.ext_getElem
    · simp
    · intro i h1 h2
      by_cases e : i = j
      · subst e; simp [List.getD, h2]
      · simp [List.getElem_set_ne (Ne.symm e)]

theorem setDs_eq {x : SV} {q : List Nat} {j : Nat} {new : List DV} (ha : AllVal new) {c : List Prop} {n : Nat} (hok : setDok x q j n = some c) : setDs x q j new = setCs x q j (new.map ofV) := by
  unfold setDok at hok
  split at hok
  · rename_i cs i q
    simp only [setDs, setCs, ofV_map ha]
    rfl
  · rename_i d q
    cases q <;> simp only [setDs, setCs, ofV_map ha] <;> rfl
  · cases hok
theorem setDok_eq {x : SV} {q : List Nat} {j : Nat} {new : List CV} {c : List Prop} (hf : new.all CV.fit = true) (hok : setDok x q j new.length = some c) : setOk x q j new.length new = some c := by
  unfold setDok at hok
  split at hok
  · rename_i cs i q
    simp only [setOk]
    split at hok
    · rename_i hd
      rw [hd]
      simp only [hf, if_true]
      exact hok
    · cases hok
  · rename_i d q
    cases q <;> (simp only [setOk]; rw [if_pos hf]; exact hok)
  · cases hok
theorem setDs_nil {x : SV} {q : List Nat} {j n : Nat} {c : List Prop} (hok : setDok x q j n = some c) : setDs x q j [] = x := by
  unfold setDok at hok
  split at hok
  · rename_i cs i q
    split at hok
    · rename_i d hd
      simp only [setDs, hd]
      congr 1
      rw [modP_id (g := fun es => overlay es j []) (fun es => rfl)]
      have hi : i < cs.length := by
        refine Nat.lt_of_not_le fun hle => ?_
        simp [List.getD, List.getElem?_eq_none hle] at hd
      apply List.ext_getElem
      · simp
      · intro k h1 h2
        by_cases e : k = i
        · subst e; simp [List.getD, h2] at hd ⊢; exact hd.symm
        · simp [List.getElem_set_ne (Ne.symm e)]
    · cases hok
  · rename_i d _
    simp only [setDs]
    rw [modP_id (g := fun es => overlay es j []) (fun es => rfl)]
  · cases hok

/-- A slot is left as it is; what hangs on it may be forgotten, or seen anew. -/
theorem RelW.rekeep (h : RelW φ w0 F0 sl fx ts fv w) {s : Nat} (hs : s < sl.length) {keep : SV → SV} (hk : ∀ t y, sl[t]? = some y → SlotRel w (setN φ []) (valAt ts) (valAt ts t) (φ (some t)) (keep y)) {v : Value} {x : SV} (hx : SlotRel w (setN φ []) (valAt ts) v [] x) :
    RelW (setN φ []) w0 F0 ((sl.map keep).set s (gt sl s)) x ts v w := by
  have h1 := h.see (v := undef) (x := .dead) trivial
  have e : setN (setN φ []) [] = setN φ [] := by funext t; unfold setN; split <;> rfl
  have h2 : RelW (setN φ []) w0 F0 sl x ts v w := by
    have := h1.refly (Ext.refl _ _) (v := v) (ψ := []) (x := x) .nil (fun b hb => by cases hb) (by rw [e]; exact hx)
    rwa [e] at this
  refine ⟨by simp [h2.len], fun t y hy => ?_, h2.nd, h2.dj, h2.lt, h2.ext⟩
  cases t with
  | none => exact h2.slot none y hy
  | some t =>
    simp only [sget] at hy
    by_cases e : t = s
    · subst e
      rw [List.getElem?_set_self (by simpa using hs)] at hy
      cases hy
      exact gt_rel h2 t
    · rw [List.getElem?_set_ne (Ne.symm e), List.getElem?_map] at hy
      cases hz : sl[t]? with
      | none => simp [hz] at hy
      | some z =>
        simp only [hz, Option.map_some, Option.some.injEq] at hy
        subst hy
        have : setN φ [] (some t) = φ (some t) := by simp [setN]
        rw [this]
        exact hk t z hz

theorem keepC_weak {f : Nat → Value} {v : Value} {ψ : List Nat} {c : CV} {bx : Bool} {s : Nat} {q : List Nat} {j n : Nat} (h : CVRel w φ f v ψ c) : CVRel w φ f v ψ (keepC bx s q j n c) := by
  unfold keepC
  split
  · split
    · exact h
    · split
      · split
        · exact h
        · exact trivial
      · exact h
      · exact trivial
    · exact trivial
  · exact h
theorem keepX_same (h : RelW φ w0 F0 sl fx ts fv w) {s : Nat} {q : List Nat} {j n : Nat} : ∀ t y, sl[t]? = some y → SlotRel w (setN φ []) (valAt ts) (valAt ts t) (φ (some t)) (keepX (gt sl s) s q j n y) := by
  intro t y hy
  have h1 := h.see (v := undef) (x := .dead) trivial
  have hrel := h1.slot (some t) y hy
  have et : setN φ [] (some t) = φ (some t) := by simp [setN]
  simp only [vget] at hrel
  rw [et] at hrel
  unfold keepX
  split
  · exact keepC_weak (c := _) hrel
  · obtain ⟨vs, g1, g2⟩ := hrel
    refine ⟨vs, g1, ?_⟩
    have go : ∀ (vs : List Value) (cs : List CV) (ψ : List Nat), CVs w (setN φ []) (valAt ts) vs cs ψ → CVs w (setN φ []) (valAt ts) vs (cs.map (keepC (isBox (gt sl s)) s q j n)) ψ := by
      intro vs cs ψ hcv
      induction hcv with
      | nil => exact .nil
      | cons g1 _ ih => exact .cons (keepC_weak g1) ih
    exact go _ _ _ g2
  · unfold keepW
    split
    · split
      · exact hrel
      · split
        · split
          · exact hrel
          · exact trivial
        · exact hrel
        · exact trivial
      · exact trivial
    · exact hrel

theorem slot_lt {s : Nat} {x : SV} (h : gt sl s = x) (hx : x ≠ .dead) : s < sl.length := by
  refine Nat.lt_of_not_le fun hle => hx ?_
  rw [← h]
  simp [gt, List.getD, List.getElem?_eq_none hle]

theorem cut_view {x : SV} {s : Nat} {p : List Nat} {lo : Nat} {es : List DV} {v : Value} {g : Nat → Value} (hc : cutOf x = some (s, p, lo, es)) (h : SlotRel w φ g v [] x) :
    ∃ a cap a' cap', (∃ n, hdr w (φ (some s)) (g s) p = some (.slice a n cap)) ∧ v = .slice a' es.length cap' ∧ (0 < es.length → ∃ b o, a = some ⟨b, o, none⟩ ∧ a' = some ⟨b, o + lo, none⟩) := by
  unfold cutOf at hc
  split at hc
  · cases hc
    obtain ⟨-, a, n, cap, a', n', cap', bs, h1, rfl, h3, h4, -⟩ := h
    obtain ⟨a2, n2, cap2, us, bs1, e1, -, -, -, -, e6⟩ := h4.elems
    cases e1
    have : es.length = n' := by simpa [DV.n] using e6 (by omega)
    rw [this]
    exact ⟨a, cap, a', cap', ⟨n, h1⟩, rfl, h3⟩
  · cases hc
    obtain ⟨-, h1, bs, h4, -⟩ := h
    obtain ⟨a2, n2, cap2, us, bs1, rfl, -, -, -, e5, e6⟩ := h4.elems
    have : es.length = n2 := by simpa [DV.n] using e6 (by omega)
    rw [this]
    refine ⟨a2, cap2, a2, cap2, ⟨n2, h1⟩, rfl, fun hpos => ?_⟩
    rcases e5 with e5 | ⟨b, off, e5, -⟩
    · omega
    · exact ⟨b, off, e5, by simpa using e5⟩
  · cases hc

theorem copy_sound (hT : TbOk P tb) (h : RelW φ w0 F0 sl fx ts fv w) {t t' ty : TypeId} {x y : Operand} {cs : List Prop} {v : SV} {sl' : Sl} (hx : cpyV tb sl t x y = some (cs, v, sl')) (hc : ∀ p ∈ cs, p) :
    ∃ u w' φ', (Builtin.copy_ #[t, t'] ty #[Act.eval ⟨ts, ds⟩ x, Act.eval ⟨ts, ds⟩ y]).run P w = .ok u w' ∧ RelW φ' w0 F0 sl' v ts u w' := by
  unfold cpyV at hx
  split at hx
  · rename_i e s p lo es es2 hk hcut hsrc
    split at hx
    · rename_i hsz
      split at hx
      · rename_i c hok
        simp only [Option.some.injEq, Prod.mk.injEq] at hx
        obtain ⟨rfl, rfl, rfl⟩ := hx
        have ha : AllVal es2 := hc _ (List.mem_cons_self ..)
        have hc' : ∀ p ∈ c, p := fun p hp => hc p (List.mem_cons_of_mem _ hp)
        have hsz : (tb e).size = 1 := by simpa using hsz
        have hke : (tb e).k ≠ .other := not_other hT (by omega)
        obtain ⟨ji, zi, i1, i2, -⟩ := info_of hT hke
        have hu := (under_of hT).2.1 e hk
        have hsi : (P.info? e).map (·.size) = some 1 := by rw [i1]; simp [i2, hsz]
        simp only [Option.bind_eq_some_iff] at hcut hsrc
        obtain ⟨xv, hxv, hcut⟩ := hcut
        obtain ⟨yv, hyv, hsrc⟩ := hsrc
        have hfx : flat xv = true := by
          unfold cutOf at hcut
          split at hcut <;> first | rfl | cases hcut
        have hfy : flat yv = true := by
          unfold sliceD at hsrc
          split at hsrc <;> first | rfl | cases hsrc
        obtain ⟨a, cap, a', cap', ⟨n0, h1⟩, h2, h3⟩ := cut_view hcut (opView_rel (ds := ds) h hxv hfx)
        obtain ⟨o, bs, h4⟩ := sliceD_rel' hsrc (opView_rel (ds := ds) h hyv hfy)
        obtain ⟨a2, n2, cap2, us2, bs3, q1, q2, q3, -, q5, q6⟩ := h4.elems
        have hn2 : es2.length = n2 := by simpa [DV.n] using q6 (by omega)
        have hus : us2.length = es2.length := q3.length
        have hs : s < sl.length := by
          refine slot_lt rfl fun hd => ?_
          rw [hd] at hok
          simp [setDok] at hok
        rw [h2, q1]
        by_cases h0 : min es.length es2.length = 0
        · have hrun := run_copy_none (P := P) w t t' ty e a' a2 es.length cap' n2 cap2 hu hsi (by rw [← hn2]; exact (Nat.min_comm es2.length es.length).trans h0)
          refine ⟨goInt 0, w, setN φ [], hrun, ?_⟩
          rw [h0] at hok ⊢
          simp only [List.take_zero, setDs_nil hok]
          exact h.rekeep hs (keepX_same h) ⟨rfl, rfl, rfl⟩
        · have hpos : 0 < es.length := by omega
          obtain ⟨b, o0, rfl, rfl⟩ := h3 hpos
          have hl : ((es2.take (min es.length es2.length)).map ofV).length = min es.length es2.length := by simp
          have hok2 := setDok_eq (new := (es2.take (min es.length es2.length)).map ofV) (ofV_fit (ha.take _)) (by rw [hl]; exact hok)
          obtain ⟨b1, b2, k1, k2, -⟩ := q3.split (min es.length es2.length)
          have h5 := h.see (v := undef) (x := .dead) trivial
          have hcells : CVs w (setN φ []) (valAt ts) (us2.take (min es.length es2.length)) ((es2.take (min es.length es2.length)).map ofV) (setN φ [] none) := ofV_rel k1 (ha.take _)
          obtain ⟨there, -, φ', hrel⟩ := store_rel h5 (q := p) (j := lo) (b := b) (o := o0) (by simpa [setN] using h1) rfl hcells (by rw [hl]; omega) hok2 hc'
          have hul : (us2.take (min es.length es2.length)).length = min es.length es2.length := by rw [List.length_take, hus]; omega
          rcases q5 with q5 | ⟨b5, off5, rfl, q7, -⟩
          · omega
          have hrun := run_copy_cells (P := P) w t t' ty e b (o0 + lo) es.length cap' ⟨b5, off5, none⟩ n2 cap2 (us2.take (min es.length es2.length)) hu hsi (by rw [hul, ← hn2]; exact Nat.min_comm es.length es2.length)
            (fun k u hk => by
              rw [List.getElem?_take] at hk
              split at hk
              · rw [Addr_add]; exact q7 k u hk
              · cases hk) (fun k hk => (there k hk).1) (fun k hk => (there k hk).2) (fun u hu => q3.ones u (List.mem_of_mem_take hu))
          rw [hul] at hrun
          rw [hl, ← setDs_eq (ha.take _) hok] at hrel
          exact ⟨_, _, _, hrun, hrel.see (x := .one (.cell (.sc _))) ⟨rfl, rfl, rfl⟩⟩
      · cases hx
    · cases hx
  · cases hx
end
end Go.Proofs.Ytckcehmggdnliaa.DL
